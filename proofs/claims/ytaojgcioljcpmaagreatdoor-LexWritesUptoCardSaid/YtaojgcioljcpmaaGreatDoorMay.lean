/- Contract: lex.may: whether a token is told as itself. -/
import Derived.Test.YtaojgcioljcpmaaGreatDoorOneB
import Derived.Test.YtaojgcioljcpmaaGreatDoorLexS
namespace Go.Proofs.YtaojgcioljcpmaaGreatDoor
open Go.RowKit

theorem lmay_str (t : T.Tok) (h : t.k = 4) : T.may t = (decide (t.n = 0) && T.whole t.t) := by
  rw [← T.lmay_may]; unfold T.lmay; rw [if_pos h]
theorem lmay_other (t : T.Tok) (h : t.k ≠ 4) : T.may t = (decide ((T.tokens (T.one t)).2.1 = 0) && T.sameL (T.tokens (T.one t)).1 [t]) := by
  rw [← T.lmay_may]; unfold T.lmay; rw [if_neg h]

theorem one_len2 (t : T.Tok) (hn : -9223372036854775808 ≤ t.n ∧ t.n ≤ 9223372036854775807) : (T.one t).length ≤ 2 * t.t.length + 22 := by
  unfold T.one
  by_cases h3 : t.k = 3
  · rw [if_pos h3]
    unfold Lib.itoa
    split
    · have := T.dec_len 18 t.n.natAbs (by omega)
      rw [List.length_cons]; omega
    · have := T.dec_len 18 t.n.toNat (by omega)
      omega
  · rw [if_neg h3]
    by_cases h4 : t.k = 4
    · rw [if_pos h4, List.length_cons, List.length_append]
      have := esc_le t.t
      rw [List.length_singleton]; omega
    · rw [if_neg h4]; omega

set_option maxRecDepth 50000 in
set_option maxHeartbeats 4000000 in
theorem may_any' (G : Nat) (k : Int) (tt : List UInt8) (n : Int) (w : World) (hT : Tabs G w) (hl : tt.length ≤ 1048576) (hn : -9223372036854775808 ≤ n ∧ n ≤ 9223372036854775807) :
    Calls Tryz.prog 27 #[.agg #[.int .u8 k, .string ⟨tt.toArray⟩, .int .i64 n, .int .i64 0, .int .i64 0, .int .i64 0]] w fun e w' => e = .returned (.bool (T.may ⟨k, tt, n, U.zero⟩)) ∧ Below w.heap.size w w' := by
  by_cases h4 : k = 4
  · subst h4
    rw [lmay_str _ rfl]
    by_cases h0 : n = 0
    · subst h0
      obtain ⟨B, hB⟩ : ∃ B, T.whole tt = B := ⟨_, rfl⟩
      show Calls _ _ _ _ fun e w' => e = .returned (.bool (decide ((0 : Int) = 0) && T.whole tt)) ∧ _
      rw [hB]
      have hwh := fun (W : World) (hW : Below w.heap.size w W) => whole_any G ⟨tt.toArray⟩ W (by show tt.toArray.size ≤ _; rw [List.size_toArray]; omega) (hT.below (hW.mono hT.le))
      have e : (⟨tt.toArray⟩ : ByteArray).data.toList = tt := rfl
      rw [e, hB] at hwh
      have HWH := Lib.hid hwh
      clear hwh hB hT hn
      go_enter Tryz.func27, Tryz.ntmps27
      go_wp2_with (go_at_call 40; refine (HWH.out _ ((Below.refl _ _).alloc (Nat.le_refl _) _)).mono ?_; rintro e w1 ⟨rfl, hb1⟩)
      go_ret
      refine ⟨by simp, ?_⟩
      exact ((Below.refl w.heap.size w).alloc (Nat.le_refl _) _).trans (hb1.mono (by simp))
    · have hnd : (n == 0) = false := by rw [beq_eq_false_iff_ne]; exact h0
      show Calls _ _ _ _ fun e w' => e = .returned (.bool (decide (n = 0) && T.whole tt)) ∧ _
      rw [decide_eq_false h0]
      clear hT hn
      go_enter Tryz.func27, Tryz.ntmps27
      go_wp2
      go_ret
      exact ⟨rfl, (Below.refl _ _).alloc (Nat.le_refl _) _⟩
  · rw [lmay_other _ h4]
    have hk4 : (k == 4) = false := by rw [beq_eq_false_iff_ne]; exact h4
    have h1 := fun (W : World) (hW : Below w.heap.size w W) => one_any G ⟨k, tt, n, U.zero⟩ W (hT.below (hW.mono hT.le)) hl hn
    obtain ⟨O, hO⟩ : ∃ O, T.one ⟨k, tt, n, U.zero⟩ = O := ⟨_, rfl⟩
    have hOl : O.length ≤ 4194304 := by
      rw [← hO]
      have := one_len2 ⟨k, tt, n, U.zero⟩ hn
      simp only at this
      omega
    rw [hO] at h1 ⊢
    have h2 := fun (W : World) (hW : Below w.heap.size w W) => tokens_any ⟨O.toArray⟩ W (by show O.toArray.size ≤ _; rw [List.size_toArray]; unfold maxLen; omega) (Tabs.of (hT.below (hW.mono hT.le)).now)
    have e : (⟨O.toArray⟩ : ByteArray).data.toList = O := rfl
    rw [e] at h2
    obtain ⟨M, hM⟩ : ∃ M, (T.tokens O).1 = M := ⟨_, rfl⟩
    obtain ⟨E, hE⟩ : ∃ E, (T.tokens O).2.1 = E := ⟨_, rfl⟩
    obtain ⟨⟨qa, ql, qc⟩, hQ⟩ : ∃ Q, (T.tokens O).2.2 = Q := ⟨_, rfl⟩
    rw [hM, hE, hQ] at h2
    rw [hM, hE]
    obtain ⟨RR, hRR⟩ : ∃ RR, (decide (E = 0) && T.sameL M [⟨k, tt, n, U.zero⟩]) = RR := ⟨_, rfl⟩
    rw [hRR]
    have HRR := Lib.hid hRR
    clear hRR
    have H1 := Lib.hid h1
    have H2 := Lib.hid h2
    clear h1 h2 hO hM hE hQ hT hn hl
    obtain ⟨W0, hW0⟩ : ∃ W0, w.alloc (.cells #[.int .u8 k, .string ⟨tt.toArray⟩, .int .i64 n, .int .i64 0, .int .i64 0, .int .i64 0] 42) = W0 := ⟨_, rfl⟩
    have hbk0 : Blk W0 w.heap.size #[.int .u8 k, .string ⟨tt.toArray⟩, .int .i64 n, .int .i64 0, .int .i64 0, .int .i64 0] 42 := by rw [← hW0]; exact heap_alloc_new w _
    have x0 : W0.cell? ⟨w.heap.size, 0, none⟩ = some (.int .u8 k) := hbk0.cell 0
    have x1 : W0.cell? ⟨w.heap.size, 1, none⟩ = some (.string ⟨tt.toArray⟩) := hbk0.cell 1
    have x2 : W0.cell? ⟨w.heap.size, 2, none⟩ = some (.int .i64 n) := hbk0.cell 2
    have x3 : W0.cell? ⟨w.heap.size, 3, none⟩ = some (.int .i64 0) := hbk0.cell 3
    have x4 : W0.cell? ⟨w.heap.size, 4, none⟩ = some (.int .i64 0) := hbk0.cell 4
    have x5 : W0.cell? ⟨w.heap.size, 5, none⟩ = some (.int .i64 0) := hbk0.cell 5
    have hW : Below w.heap.size w W0 := by rw [← hW0]; exact (Below.refl _ _).alloc (Nat.le_refl _) _
    have htb : w.heap.size < W0.heap.size := by rw [← hW0]; simp
    have HW := Lib.hid hW
    have HBX := Lib.hid hbk0
    clear hbk0 hW
    go_enter Tryz.func27, Tryz.ntmps27
    go_wp2_with fail
    clear hW0
    refine (H1.out W0 HW.out).mono ?_
    rintro _ w1 ⟨rfl, hb1⟩
    have hs1 := hb1.size
    have HW1 := Lib.hid (HW.out.trans (hb1.mono (by omega)))
    have hbx1 := HBX.out.below hb1 htb
    have HBX1 := Lib.hid hbx1
    clear x0 x1 x2 x3 x4 x5 hb1 hbx1
    go_wp2_with fail
    refine (H2.out w1 HW1.out).mono ?_
    rintro _ w2 ⟨v, rfl, hb2, hown2⟩
    have hs2 := hb2.size
    have HW2 := Lib.hid (HW1.out.trans (hb2.mono (by omega)))
    have hbx2 := HBX1.out.below hb2 (by omega)
    obtain ⟨va, vc, rfl⟩ := own_slice hown2
    have y0 : w2.cell? ⟨w.heap.size, 0, none⟩ = some (.int .u8 k) := hbx2.cell 0
    have y1 : w2.cell? ⟨w.heap.size, 1, none⟩ = some (.string ⟨tt.toArray⟩) := hbx2.cell 1
    have y2 : w2.cell? ⟨w.heap.size, 2, none⟩ = some (.int .i64 n) := hbx2.cell 2
    have y3 : w2.cell? ⟨w.heap.size, 3, none⟩ = some (.int .i64 0) := hbx2.cell 3
    have y4 : w2.cell? ⟨w.heap.size, 4, none⟩ = some (.int .i64 0) := hbx2.cell 4
    have y5 : w2.cell? ⟨w.heap.size, 5, none⟩ = some (.int .i64 0) := hbx2.cell 5
    have HOWN := Lib.hid hown2
    have HBX2 := Lib.hid hbx2
    clear hb2 hbx2 hown2
    unfold diagV
    by_cases hE0 : E = 0
    · subst hE0
      by_cases hM1 : M.length = 1
      · obtain ⟨x, hx⟩ : ∃ x, M = [x] := by
          match M, hM1 with
          | [x], _ => exact ⟨x, rfl⟩
        subst hx
        obtain ⟨kx, tx, nx, ⟨pxa, pxl, pxc⟩⟩ := x
        have hR2 : RR = (decide (kx = k) && decide (tx = tt) && decide (nx = n)) := by
          rw [← HRR.out]
          show (true && (T.same1 _ _ && true)) = _
          rw [Bool.and_true, Bool.true_and]; rfl
        have HR2 := Lib.hid hR2
        clear hR2 hM1
        obtain ⟨g, rfl, hbg, cur, hgb, hcc⟩ : ∃ g, va = some ⟨g, 0, none⟩ ∧ w1.heap.size ≤ g ∧ ∃ cur, Blk w2 g cur 42 ∧ ∀ j u, (toksCells [⟨kx, tx, nx, ⟨pxa, pxl, pxc⟩⟩])[j]? = some u → w2.cell? ⟨g, j, none⟩ = some u := by
          have ho := HOWN.out
          rcases ho.2 with ⟨_, h0⟩ | ⟨g, cap, cur, hv, hbg, hg, _⟩
          · cases h0
          · injection hv with h1 h2 h3
            refine ⟨g, h1, hbg, cur, hg, fun j u hj => ?_⟩
            have := ho.cells (g := g) (by rw [h1]; rfl) j u hj
            have hadd : (⟨g, 0, none⟩ : Addr).add j = ⟨g, j, none⟩ := by unfold Addr.add; split <;> simp_all
            rwa [hadd] at this
        have z0 : w2.cell? ⟨g, 0, none⟩ = some (.int .u8 kx) := hcc 0 _ rfl
        have z1 : w2.cell? ⟨g, 1, none⟩ = some (.string ⟨tx.toArray⟩) := hcc 1 _ rfl
        have z2 : w2.cell? ⟨g, 2, none⟩ = some (.int .i64 nx) := hcc 2 _ rfl
        have z3 : w2.cell? ⟨g, 3, none⟩ = some (.int .i64 pxa) := hcc 3 _ rfl
        have z4 : w2.cell? ⟨g, 4, none⟩ = some (.int .i64 pxl) := hcc 4 _ rfl
        have z5 : w2.cell? ⟨g, 5, none⟩ = some (.int .i64 pxc) := hcc 5 _ rfl
        have f3 := hgb.free 3
        have f4 := hgb.free 4
        have f5 := hgb.free 5
        have hgl := hgb.lt
        have hn1 : ¬ g = w.heap.size := by omega
        have hn2 : ¬ w.heap.size = g := by omega
        have hn3 : ¬ g = w2.heap.size := by omega
        have hn4 : ¬ w2.heap.size = g := by omega
        have hn5 : ¬ w.heap.size = w2.heap.size := by omega
        have hn6 : ¬ w2.heap.size = w.heap.size := by omega
        have hwl : w.heap.size < w2.heap.size := by omega
        clear hgb hcc
        by_cases e1 : kx = k
        · subst e1
          by_cases e2 : tx = tt
          · subst e2
            by_cases e3 : nx = n
            · subst e3
              go_wp2_with fail
              go_quiet (fail)
              go_wp2
              go_ret
              refine ⟨ret_b ?_, ?_⟩
              · rw [HR2.out]
                simp
              · (repeat (with_reducible first | exact HW2.out | refine Below.setCell ?_ ?_ _ | refine Below.alloc ?_ ?_ _ | refine Below.drewN ?_ _ | refine Below.drew ?_)) <;> first | omega | (simp; omega) | (simp; done)
            · have hnd : (nx == n) = false := by rw [beq_eq_false_iff_ne]; exact e3
              have HNN := Lib.hid e3
              clear e3
              go_wp2_with fail
              go_quiet (fail)
              go_wp2
              go_ret
              refine ⟨ret_b ?_, ?_⟩
              · rw [HR2.out]
                simp [HNN.out]
              · (repeat (with_reducible first | exact HW2.out | refine Below.setCell ?_ ?_ _ | refine Below.alloc ?_ ?_ _ | refine Below.drewN ?_ _ | refine Below.drew ?_)) <;> first | omega | (simp; omega) | (simp; done)
          · have hnd : (tx == tt) = false := by rw [beq_eq_false_iff_ne]; exact e2
            have HNN := Lib.hid e2
            clear e2
            go_wp2_with fail
            go_quiet (fail)
            go_wp2
            go_ret
            refine ⟨ret_b ?_, ?_⟩
            · rw [HR2.out]
              simp [HNN.out]
            · (repeat (with_reducible first | exact HW2.out | refine Below.setCell ?_ ?_ _ | refine Below.alloc ?_ ?_ _ | refine Below.drewN ?_ _ | refine Below.drew ?_)) <;> first | omega | (simp; omega) | (simp; done)
        · have hnd : (kx == k) = false := by rw [beq_eq_false_iff_ne]; exact e1
          have HNN := Lib.hid e1
          clear e1
          go_wp2_with fail
          go_quiet (fail)
          go_wp2
          go_ret
          refine ⟨ret_b ?_, ?_⟩
          · rw [HR2.out]
            simp [HNN.out]
          · (repeat (with_reducible first | exact HW2.out | refine Below.setCell ?_ ?_ _ | refine Below.alloc ?_ ?_ _ | refine Below.drewN ?_ _ | refine Below.drew ?_)) <;> first | omega | (simp; omega) | (simp; done)
      · have hMd : (((M.length : Nat) : Int) != 1) = true := by rw [bne_iff_ne]; omega
        have hfin : T.sameL M [⟨k, tt, n, U.zero⟩] = false := by
          match M, hM1 with
          | [], _ => rfl
          | [_], h => exact absurd rfl h
          | _ :: _ :: _, _ => unfold T.sameL; exact Bool.and_false _
        have hR2 : RR = false := by rw [← HRR.out, hfin, Bool.and_false]
        subst hR2
        clear hfin
        go_wp2
        go_ret
        refine ⟨rfl, ?_⟩
        (repeat (with_reducible first | exact HW2.out | refine Below.setCell ?_ ?_ _ | refine Below.alloc ?_ ?_ _ | refine Below.drewN ?_ _ | refine Below.drew ?_)) <;> first | omega | (simp; omega) | (simp; done)
    · have hEd : (E != 0) = true := by rw [bne_iff_ne]; exact hE0
      have hR2 : RR = false := by rw [← HRR.out, decide_eq_false hE0]; rfl
      subst hR2
      go_wp2
      go_ret
      refine ⟨rfl, ?_⟩
      (repeat (with_reducible first | exact HW2.out | refine Below.setCell ?_ ?_ _ | refine Below.alloc ?_ ?_ _ | refine Below.drewN ?_ _ | refine Below.drew ?_)) <;> first | omega | (simp; omega) | (simp; done)

theorem may_any (G : Nat) (t : T.Tok) (w : World) (hT : Tabs G w) (hl : t.t.length ≤ 1048576) (hn : -9223372036854775808 ≤ t.n ∧ t.n ≤ 9223372036854775807) (hp : t.p = U.zero) :
    Calls Tryz.prog 27 #[tokV t] w fun e w' => e = .returned (.bool (T.may t)) ∧ Below w.heap.size w w' := by
  obtain ⟨k, tt, n, p⟩ := t
  simp only at hp
  subst hp
  exact may_any' G k tt n w hT hl hn
end Go.Proofs.YtaojgcioljcpmaaGreatDoor
