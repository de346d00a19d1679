/- Contract: (*strings.byteStringReplacer).Replace at the four pairs, for any string. Written by gen_repf.py. -/
import Derived.Test.YtaojgcioljcpmaaGreatDoorRepC
import Derived.Deep.QuietTactic
import Derived.BigQuiet
namespace Go.Proofs.YtaojgcioljcpmaaGreatDoor
open Go.RowKit

def elen (l : List UInt8) (k : Nat) : Nat := ((l.take k).flatMap T.esc).length
def four : List UInt8 := [9, 10, 34, 92]
def cntK (l : List UInt8) (k : Nat) : Nat := ((four.take k).map (Lib.countByte l)).sum
theorem cnt4_four (l : List UInt8) : cnt4 l = cntK l 4 := by
  have e : cntK l 4 = l.count 9 + (l.count 10 + (l.count 34 + (l.count 92 + 0))) := rfl
  rw [e]
  clear e
  induction l with
  | nil => rfl
  | cons x l ih =>
    unfold cnt4 at ih ⊢
    rw [List.countP_cons, ih, List.count_cons, List.count_cons, List.count_cons, List.count_cons]
    have h9 : (x == 9) = decide (x = 9) := rfl
    by_cases a1 : x = 9
    · subst a1; simp [spec4]; omega
    · by_cases a2 : x = 10
      · subst a2; simp [spec4]; omega
      · by_cases a3 : x = 34
        · subst a3; simp [spec4]; omega
        · by_cases a4 : x = 92
          · subst a4; simp [spec4]; omega
          · have e1 : (x == 9) = false := by rw [beq_eq_false_iff_ne]; exact a1
            have e2 : (x == 10) = false := by rw [beq_eq_false_iff_ne]; exact a2
            have e3 : (x == 34) = false := by rw [beq_eq_false_iff_ne]; exact a3
            have e4 : (x == 92) = false := by rw [beq_eq_false_iff_ne]; exact a4
            unfold spec4
            rw [e1, e2, e3, e4]; simp
theorem cntK_succ (l : List UInt8) (k : Nat) (h : k < four.length) : cntK l (k + 1) = cntK l k + Lib.countByte l (four[k]'h) := by
  unfold cntK
  rw [take_snoc' four k h, List.map_append, List.sum_append]
  simp
theorem four_spec : ∀ k (h : k < four.length), spec4 (four[k]'h) = true := by decide
theorem count_le4 (l : List UInt8) (c : UInt8) : Lib.countByte l c ≤ l.length := List.count_le_length
theorem cntK_le (l : List UInt8) : ∀ k, k ≤ 4 → cntK l k ≤ k * l.length
  | 0, _ => by simp [cntK]
  | k + 1, h => by
    have h1 := cntK_le l k (by omega)
    have hk : k < four.length := by show k < 4; omega
    rw [cntK_succ l k hk, Nat.succ_mul]
    have := count_le4 l (four[k]'hk)
    omega

set_option maxRecDepth 50000 in
set_option maxHeartbeats 8000000 in
theorem brep_long (b B : Nat) (s : ByteArray) (w : World) (h : RepAt w B b) (hs : 32 ≤ s.size) (hs2 : s.size ≤ 1048576) :
    Calls Tryz.prog 177 #[.pointer (some ⟨b, 0, none⟩), .string s] w fun e w' => e = .returned (.string ⟨(s.data.toList.flatMap T.esc).toArray⟩) ∧ Below w.heap.size w w' := by
  have HR := Lib.hid h
  obtain ⟨cs, G0, K0, G1, K1, G2, K2, G3, K3, tv, hB, hbl, hc, hl, hown, -, -, -, -, -⟩ := h
  obtain ⟨ta, tc, rfl⟩ := own_slice hown
  have hrow : ∀ (k : Nat) (hk : k < four.length), ∃ tg, ta = some ⟨tg, 0, none⟩ ∧ 4 ≤ tc ∧ w.cell? ⟨tg, k, none⟩ = some (.string ⟨#[four[k]'hk]⟩) := by
    intro k hk
    rcases hown.2 with ⟨h0, h1⟩ | ⟨g, cap, cur, hv, hbg, hg, hnc, _⟩
    · cases h1
    · injection hv with h1 h2 h3
      refine ⟨g, h1, by omega, ?_⟩
      have hk4 : k < 4 := hk
      have := hown.cells (g := g) (by rw [h1]; rfl) k (.string ⟨#[four[k]'hk]⟩) (by
        match k, hk4 with
        | 0, _ => rfl
        | 1, _ => rfl
        | 2, _ => rfl
        | 3, _ => rfl)
      have hadd : (⟨g, 0, none⟩ : Addr).add k = ⟨g, k, none⟩ := by unfold Addr.add; split <;> simp_all
      rwa [hadd] at this
  obtain ⟨tg, rfl, htc, _⟩ := hrow 0 (by decide)
  have dl : w.cell? ⟨b, 256, none⟩ = some (.slice (some ⟨tg, 0, none⟩) 4 tc) := by rw [hbl.cell 256]; exact hl
  have hbw : b < w.heap.size := hbl.lt
  obtain ⟨i, hm⟩ : ∃ m, s.size = m := ⟨_, rfl⟩
  have hml : s.data.toList.length = i := by rw [Array.length_toList]; exact hm
  have h32 : decide (32 ≤ i) = true := decide_eq_true (by omega)
  have h32' : decide ((32 : Int) ≤ (i : Int)) = true := decide_eq_true (by omega)
  rw [hm] at hs hs2
  have HM := Lib.hid hm
  have HML := Lib.hid hml
  have hq := fun (W : World) => Lib.run_eql_slice_nil_nil (P := Tryz.prog) W 0 0 Tryz.underlying38
  have HQ := Lib.hid hq
  have HROW := Lib.hid hrow
  clear hq hrow
  clear hbl hc hown hml hl
  go_enter Tryz.func177, Tryz.ntmps177
  go_wp2
  clear hm
  go_loopw [32, 5, 6] (fun u v x wr => ∃ k n : Nat, k ≤ 4 ∧ u = .int .i64 k ∧ n = cntK s.data.toList k ∧ v = .int .i64 ((i + n : Nat) : Int) ∧ x = .bool (decide (0 < n)) ∧ ∃ q, wr = w.drewN q) (fun u _ _ _ => 4 - (intOf u).toNat)
  case atStart => exact ⟨0, 0, Nat.zero_le _, rfl, rfl, rfl, rfl, 0, rfl⟩
  case round =>
    obtain ⟨k, n, hk, rfl, hn, rfl, rfl, q, rfl⟩ := hrel
    have hnle : n ≤ 4 * i := by
      rw [hn]
      have := cntK_le s.data.toList k hk
      rw [HML.out] at this
      exact Nat.le_trans this (Nat.mul_le_mul_right _ hk)
    by_cases hlt : k < 4
    · have hkf : k < four.length := hlt
      obtain ⟨tg2, he, _, hcell⟩ := HROW.out k hkf
      obtain rfl : tg = tg2 := by injection he with h1; injection h1
      have hspec := repl_at HR.out (four[k]'hkf)
      have hsp := four_spec k hkf
      have hnx := cntK_succ s.data.toList k hkf
      obtain ⟨c, hc⟩ : ∃ c, four[k]'hkf = c := ⟨_, rfl⟩
      rw [hc] at hcell hspec hsp hnx
      rcases hspec with ⟨_, G, K, y, z, hce, -, -, -, -⟩ | ⟨hsp2, -, -⟩
      · obtain ⟨cb, hcb⟩ : ∃ cb, Lib.countByte s.data.toList c = cb := ⟨_, rfl⟩
        have hcbl : cb ≤ i := by rw [← hcb, ← HML.out]; exact count_le4 _ _
        have hcnt : ∀ W, Calls Tryz.prog 179 #[.string s, .string ⟨#[c]⟩] W fun e w' => e = .returned (.int .i64 cb) ∧ w' = W := by
          intro W
          rw [← hcb]
          exact Tryz.strings_Count_one s c W
        have HC := Lib.hid hcnt
        have HNX := Lib.hid (hnx.trans (by rw [← hn, hcb] : _ = n + cb))
        have hci : ∀ h, ((⟨#[c]⟩ : ByteArray)[0]'h).toNat = c.toNat := fun _ => rfl
        have hcs : (⟨#[c]⟩ : ByteArray).size = 1 := rfl
        have hc256 : (c.toNat : Int) < 256 := by have := c.toNat_lt; omega
        have hk4 : (k : Int) < 4 := by omega
        clear hcnt hnx hn hcb he hc hsp
        by_cases h0 : cb = 0
        · subst h0
          go_wp2_with (go_at_call 179; refine (HC.out _).mono ?_; rintro e w2 ⟨rfl, rfl⟩)
          refine ⟨⟨k + 1, n, by omega, by rw [Int.natCast_add]; rfl, by rw [HNX.out]; rfl, rfl, rfl, q, rfl⟩, by simp [intOf]; omega⟩
        · have hne : ((cb : Int) != 0) = true := by rw [bne_iff_ne]; omega
          go_wp2_with (go_at_call 179; refine (HC.out _).mono ?_; rintro e w2 ⟨rfl, rfl⟩)
          go_quiet (fail)
          go_wp2
          refine ⟨⟨k + 1, n + cb, by omega, by rw [Int.natCast_add]; rfl, by rw [HNX.out], ?_, ?_, _, rfl⟩, by simp [intOf]; omega⟩
          · congr 1; omega
          · rw [decide_eq_true (by omega)]
      · rw [hsp] at hsp2; cases hsp2
    · have hk4 : k = 4 := by omega
      subst hk4
      rw [← cnt4_four] at hn
      subst hn
      clear hnle
      obtain ⟨n, hn⟩ : ∃ n, cnt4 s.data.toList = n := ⟨_, rfl⟩
      have hnm : n ≤ i := by rw [← hn, ← HML.out]; exact List.countP_le_length
      rw [hn]
      have HN := Lib.hid hn
      clear hn
      obtain ⟨D, hD⟩ : ∃ D, s.data.toList.flatMap T.esc = D := ⟨_, rfl⟩
      have hDl : D.length = i + n := by rw [← hD, escs_len, HML.out, HN.out]
      have HD := Lib.hid hD
      have HDL := Lib.hid hDl
      clear hD hDl
      by_cases h0 : 0 < n
      · rw [decide_eq_true h0]
        have hmk := make_bytes (i + n) (by omega) (w.drewN q)
        rw [Int.natCast_add] at hmk
        obtain ⟨N, hN⟩ : ∃ N, i + n = N := ⟨_, rfl⟩
        rw [hN] at hmk
        have HDN := Lib.hid (HDL.out.trans hN)
        have hN128 : N ≤ 4194304 := by omega
        clear hN
        obtain ⟨W, hW⟩ : ∃ W, (w.drewN q).alloc (.cells (Array.replicate N (.int .u8 0)) 5) = W := ⟨_, rfl⟩
        have hbuf : BufAt W w.heap.size [] N := by rw [← hW]; exact BufAt.start _ _ _ rfl
        have hbel : Below w.heap.size w W := by rw [← hW]; exact (Below.drewN (Below.refl _ _) _).alloc (Nat.le_refl _) _
        rw [hW] at hmk
        have HBUF := Lib.hid hbuf
        have HBEL := Lib.hid hbel
        clear hW hbuf hbel
        go_wp2
        go_loopw [14, 13] (fun u v wr => ∃ k : Nat, k ≤ i ∧ u = .int .i64 k ∧ v = .int .i64 (elen s.data.toList k : Nat) ∧ BufAt wr w.heap.size ((s.data.toList.take k).flatMap T.esc) N ∧ Below w.heap.size w wr) (fun u _ _ => i - (intOf u).toNat)
        case atStart => exact ⟨0, Nat.zero_le _, rfl, by simp [elen], HBUF.out, HBEL.out⟩
        case round =>
          obtain ⟨k, hk, rfl, rfl, hbf, hbe⟩ := hrel
          by_cases hkl : k < i
          · have hi2 : (k : Int) < (i : Int) := by omega
            have hil : k < s.data.toList.length := by rw [HML.out]; exact hkl
            obtain ⟨x, hx⟩ : ∃ x, s.data.toList[k]'hil = x := ⟨_, rfl⟩
            have htk := take_snoc' s.data.toList k hil
            rw [hx] at htk
            have hfm : (s.data.toList.take (k + 1)).flatMap T.esc = (s.data.toList.take k).flatMap T.esc ++ T.esc x := by rw [htk, List.flatMap_append]; simp
            have hle : ((s.data.toList.take (k + 1)).flatMap T.esc).length ≤ N := by
              rw [← HDN.out, ← HD.out]
              conv => rhs; rw [← List.take_append_drop (k + 1) s.data.toList, List.flatMap_append, List.length_append]
              omega
            obtain ⟨p, hp⟩ : ∃ p, (s.data.toList.take k).flatMap T.esc = p := ⟨_, rfl⟩
            rw [hp] at hfm hbf
            have hspec := repl_at HR.out x
            obtain ⟨j, hj⟩ : ∃ j, p.length = j := ⟨_, rfl⟩
            have hek : elen s.data.toList k = j := by unfold elen; rw [hp]; exact hj
            rw [hek]
            clear hek
            have HX := Lib.hid hx
            have HFM := Lib.hid hfm
            have HP := Lib.hid hp
            have HJ := Lib.hid hj
            have HLE := Lib.hid hle
            clear hx hfm hp hj hle htk
            have hsi : ∀ h, (s[k]'h).toNat = x.toNat := by
              intro h
              rw [← HX.out, Array.getElem_toList]; rfl
            have hms2 : (k : Int) < (s.size : Int) := by rw [HM.out]; exact hi2
            have hx256 : (x.toNat : Int) < 256 := by have := x.toNat_lt; omega
            rcases hspec with ⟨hsp, G, K, y, z, hce, hG, hy, hz, hesc⟩ | ⟨hsp, hce, hesc⟩
            · have hce2 := (hbe.cell (p := ⟨b, x.toNat, none⟩) hbw).trans hce
              go_wp2
              have hG2 := hbe.cell (p := ⟨G, 0, none⟩) hG
              have hG1 := hbe.cell (p := ⟨G, 1, none⟩) hG
              have hj2 : j + 2 ≤ N := by
                have := HLE.out
                rw [HFM.out, List.length_append, HJ.out, hesc] at this
                exact this
              have hjN : (j : Int) ≤ (N : Int) := by omega
              have hjN2 : ((N : Int) - (j : Int)).toNat = N - j := by omega
              go_region_law (refine step_copy_buf rfl (.tmp 105) (.tmp 111) rfl w.heap.size N p (by exact hbf) j HJ.out hj2 (N - j) (N - j) G K (by omega) y z (by exact (hG2.trans hy)) (by exact (hG1.trans hz)) (by simp [Act.eval]; omega) (by simp [Act.eval]) ?_; rintro w4 hb4 he4)
              all_goals
                go_wp2
                refine ⟨⟨k + 1, by omega, by rw [Int.natCast_add]; rfl, ?_, ?_, he4 _ _ (Nat.le_refl _) (Below.drew hbe)⟩, by simp [intOf]; omega⟩
                · unfold elen; rw [HFM.out, List.length_append, HJ.out, hesc]; rfl
                · rw [HFM.out, hesc]; exact hb4
            · have hce2 := (hbe.cell (p := ⟨b, x.toNat, none⟩) hbw).trans hce
              have hj2 : j + 1 ≤ N := by
                have := HLE.out
                rw [HFM.out, List.length_append, HJ.out, hesc] at this
                exact this
              have hjN : (j : Int) < (N : Int) := by omega
              obtain ⟨old, hold⟩ := hbf.cell j (by omega)
              have hfr := hbf.free j
              go_wp2
              refine ⟨⟨k + 1, by omega, by rw [Int.natCast_add]; rfl, ?_, ?_, hbe.setCell (Nat.le_refl _) _⟩, by simp [intOf]; omega⟩
              · unfold elen; rw [HFM.out, List.length_append, HJ.out, hesc]; rfl
              · rw [HFM.out, hesc]; exact hbf.push x j HJ.out.symm (by rw [HJ.out]; omega)
          · have hki : k = i := by omega
            subst hki
            have hms2 : ¬ (k : Int) < (s.size : Int) := by rw [HM.out]; omega
            have hek : elen s.data.toList k = N := by unfold elen; rw [List.take_of_length_le (by rw [HML.out]; omega), HD.out, HDN.out]
            rw [List.take_of_length_le (by rw [HML.out]; omega), HD.out] at hbf
            rw [hek]
            clear hek
            have hst := hbf.str HDN.out N 9 Tryz.underlying9
            go_wp2
            go_ret
            exact ⟨by rw [HD.out]; rfl, hbe⟩
      · have hn0 : n = 0 := by omega
        rw [decide_eq_false h0]
        go_wp2
        go_ret
        refine ⟨?_, Below.drewN (Below.refl _ _) _⟩
        rw [esc_id _ (by rw [HN.out]; exact hn0)]
        rfl

theorem brep_any (b B : Nat) (s : ByteArray) (w : World) (h : RepAt w B b) (hs2 : s.size ≤ 1048576) :
    Calls Tryz.prog 177 #[.pointer (some ⟨b, 0, none⟩), .string s] w fun e w' => e = .returned (.string ⟨(s.data.toList.flatMap T.esc).toArray⟩) ∧ Below w.heap.size w w' := by
  by_cases hs : s.size < 32
  · exact brep_short b B s w h hs
  · exact brep_long b B s w h (by omega) hs2
end Go.Proofs.YtaojgcioljcpmaaGreatDoor
