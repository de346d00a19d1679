/- Contracts: the reference's Same (layer 10). -/
import Derived.Test.YtaojgcioljcpmaaGreatDoorLexK
namespace Go.Proofs.YtaojgcioljcpmaaGreatDoor
open Go.RowKit

/-- are two lists of tokens one? (their places too, if at is true) -/
def sameT (at' : Bool) : List T.Tok → List T.Tok → Bool
  | [], [] => true
  | x :: a, y :: b => decide (x.k = y.k) && decide (x.t = y.t) && decide (x.n = y.n) && (!at' || decide (x.p.a = y.p.a ∧ x.p.l = y.p.l ∧ x.p.c = y.p.c)) && sameT at' a b
  | _, _ => false
theorem sameT_len (at' : Bool) : ∀ (a b : List T.Tok), a.length ≠ b.length → sameT at' a b = false
  | [], [], h => absurd rfl h
  | [], _ :: _, _ => rfl
  | _ :: _, [], _ => rfl
  | x :: a, y :: b, h => by
    have := sameT_len at' a b (by simpa using h)
    simp [sameT, this]
theorem sameT_at (at' : Bool) (a b : List T.Tok) (i : Nat) (h1 : i < a.length) (h2 : i < b.length) :
    sameT at' (a.drop i) (b.drop i) = (decide ((a[i]'h1).k = (b[i]'h2).k) && decide ((a[i]'h1).t = (b[i]'h2).t) && decide ((a[i]'h1).n = (b[i]'h2).n) && (!at' || decide ((a[i]'h1).p.a = (b[i]'h2).p.a ∧ (a[i]'h1).p.l = (b[i]'h2).p.l ∧ (a[i]'h1).p.c = (b[i]'h2).p.c)) && sameT at' (a.drop (i + 1)) (b.drop (i + 1))) := by
  rw [List.drop_eq_getElem_cons h1, List.drop_eq_getElem_cons h2]; rfl

theorem toksCells_at (l : List T.Tok) (i : Nat) (h : i < l.length) : ∀ j u, (tokCells (l[i]'h))[j]? = some u → (toksCells l)[i * 6 + j]? = some u := by
  induction l generalizing i with
  | nil => simp at h
  | cons x l ih =>
    have e : toksCells (x :: l) = tokCells x ++ toksCells l := by simp [toksCells]
    have hl : (tokCells x).length = 6 := rfl
    intro j u hj
    cases i with
    | zero =>
      have hj' : (tokCells x)[j]? = some u := hj
      rw [e, Nat.zero_mul, Nat.zero_add, List.getElem?_append_left (List.getElem?_eq_some_iff.1 hj').1]
      exact hj'
    | succ i =>
      have hi : i < l.length := by simpa using h
      rw [e, List.getElem?_append_right (by omega), hl, show (i + 1) * 6 + j - 6 = i * 6 + j by omega]
      exact ih i hi j u hj
theorem row_tok {w : World} {B : Nat} {a : Option Addr} {n c : Nat} {l : List T.Tok} (h : Row w B 6 (.slice a n c) n (toksCells l)) (hn : l.length = n) (i : Nat) (hi : i < l.length) :
    ∃ g off, a = some ⟨g, off, none⟩ ∧ g < B ∧ n ≤ c ∧ w.cell? ⟨g, off + i * 6, none⟩ = some (.int .u8 (l[i]'hi).k) ∧ w.cell? ⟨g, off + i * 6 + 1, none⟩ = some (.string ⟨(l[i]'hi).t.toArray⟩)
      ∧ w.cell? ⟨g, off + i * 6 + 2, none⟩ = some (.int .i64 (l[i]'hi).n) ∧ w.cell? ⟨g, off + i * 6 + 3, none⟩ = some (.int .i64 (l[i]'hi).p.a)
      ∧ w.cell? ⟨g, off + i * 6 + 4, none⟩ = some (.int .i64 (l[i]'hi).p.l) ∧ w.cell? ⟨g, off + i * 6 + 5, none⟩ = some (.int .i64 (l[i]'hi).p.c) := by
  rcases h.2.2 with ⟨h0, _⟩ | ⟨g, off, cap, hv, hb, hc, hx⟩
  · omega
  · injection hv with h1 h2 h3
    subst h1 h3
    have hy := toksCells_at l i hi
    exact ⟨g, off, rfl, hb, hc, hx _ _ (hy 0 _ rfl), hx _ _ (hy 1 _ rfl), hx _ _ (hy 2 _ rfl), hx _ _ (hy 3 _ rfl), hx _ _ (hy 4 _ rfl), hx _ _ (hy 5 _ rfl)⟩


set_option maxHeartbeats 4000000 in
theorem same_any (la lb : List T.Tok) (a1 a2 : Option Addr) (n1 n2 c1 c2 : Nat) (at' : Bool) (w : World) (hn1 : la.length = n1) (hn2 : lb.length = n2) (hl : n1 ≤ 20000) (hl2 : n2 ≤ 20000)
    (h1 : Row w w.heap.size 6 (.slice a1 n1 c1) n1 (toksCells la)) (h2 : Row w w.heap.size 6 (.slice a2 n2 c2) n2 (toksCells lb)) :
    Calls Tryz.prog 13 #[.slice a1 n1 c1, .slice a2 n2 c2, .bool at'] w fun e w' => e = .returned (.bool (sameT at' la lb)) ∧ ∃ q, w' = w.drewN q := by
  have H1 := Lib.hid h1
  have H2 := Lib.hid h2
  have HN1 := Lib.hid hn1
  have HN2 := Lib.hid hn2
  clear h1 h2
  by_cases hne : n1 = n2
  · subst hne
    clear hn1 hn2
    go_enter Tryz.func13, Tryz.ntmps13
    go_wp2
    go_loopw [7] (fun u wr => ∃ i : Nat, u = .int .i64 i ∧ i ≤ n1 ∧ Hid (sameT at' la lb = sameT at' (la.drop i) (lb.drop i)) ∧ ∃ q, wr = w.drewN q) (fun u _ => n1 - (intOf u).toNat)
    case atStart => exact ⟨0, rfl, Nat.zero_le _, rfl, 0, rfl⟩
    case round =>
      obtain ⟨i, rfl, hi, HJ, q, rfl⟩ := hrel
      by_cases hlt : i < n1
      · have hlt' : (i : Int) < (n1 : Int) := by omega
        have hia : i < la.length := by rw [HN1.out]; exact hlt
        have hib : i < lb.length := by rw [HN2.out]; exact hlt
        obtain ⟨g1, o1, rfl, _, hc1, x0, x1, x2, x3, x4, x5⟩ := row_tok H1.out HN1.out i hia
        obtain ⟨g2, o2, rfl, _, hc2, y0, y1, y2, y3, y4, y5⟩ := row_tok H2.out HN2.out i hib
        obtain ⟨xa, hxa⟩ : ∃ x, la[i]'hia = x := ⟨_, rfl⟩
        obtain ⟨xb, hxb⟩ : ∃ x, lb[i]'hib = x := ⟨_, rfl⟩
        rw [hxa] at x0 x1 x2 x3 x4 x5
        rw [hxb] at y0 y1 y2 y3 y4 y5
        have x4' : w.cell? ⟨g1, o1 + i * 6 + 3 + 1, none⟩ = some (.int .i64 xa.p.l) := x4
        have x5' : w.cell? ⟨g1, o1 + i * 6 + 3 + 2, none⟩ = some (.int .i64 xa.p.c) := x5
        have y4' : w.cell? ⟨g2, o2 + i * 6 + 3 + 1, none⟩ = some (.int .i64 xb.p.l) := y4
        have y5' : w.cell? ⟨g2, o2 + i * 6 + 3 + 2, none⟩ = some (.int .i64 xb.p.c) := y5
        have HA := Lib.hid hxa
        have HB := Lib.hid hxb
        clear hxa hxb x4 x5 y4 y5
        obtain ⟨ka, ta, na, ⟨pa, pl, pc⟩⟩ := xa
        obtain ⟨kb, tb, nb, ⟨qa, ql, qc⟩⟩ := xb
        simp only at x0 x1 x2 x3 x4' x5' y0 y1 y2 y3 y4' y5'
        by_cases hk : ka = kb
        · subst hk
          by_cases ht : ta = tb
          · subst ht
            by_cases hnn : na = nb
            · subst hnn
              cases at' with
              | false =>
                go_wp2
                go_quiet (fail)
                go_wp2
                go_roundw
                case rel =>
                  refine ⟨i + 1, by go_num, by omega, ?_, _, rfl⟩
                  show _ = _
                  rw [HJ.out, sameT_at false la lb i hia hib, HA.out, HB.out]
                  simp
                case measure => simp [intOf]; omega
              | true =>
                by_cases hp : pa = qa ∧ pl = ql ∧ pc = qc
                · obtain ⟨rfl, rfl, rfl⟩ := hp
                  go_wp2
                  go_quiet (fail)
                  go_wp2
                  go_roundw
                  case rel =>
                    refine ⟨i + 1, by go_num, by omega, ?_, _, rfl⟩
                    show _ = _
                    rw [HJ.out, sameT_at true la lb i hia hib, HA.out, HB.out]
                    simp
                  case measure => simp [intOf]; omega
                · by_cases hx : pa = qa
                  · subst hx
                    by_cases hx : pl = ql
                    · subst hx
                      have hx : ¬ pc = qc := fun h => hp ⟨rfl, rfl, h⟩
                      clear hp
                      have hnd : (pc == qc) = false := by rw [beq_eq_false_iff_ne]; exact hx
                      have hnd' : (pc != qc) = true := by rw [bne_iff_ne]; exact hx
                      have hnd2 : decide (pc = qc) = false := decide_eq_false hx
                      have HNN := Lib.hid hx
                      clear hx
                      go_wp2
                      go_quiet (fail)
                      go_wp2
                      go_ret
                      refine ⟨ret_b ?_, _, World.drewN_drewN _ _ _⟩
                      rw [HJ.out, sameT_at _ la lb i hia hib, HA.out, HB.out]
                      simp only
                      simp [HNN.out]
                    · clear hp
                      have hnd : (pl == ql) = false := by rw [beq_eq_false_iff_ne]; exact hx
                      have hnd' : (pl != ql) = true := by rw [bne_iff_ne]; exact hx
                      have hnd2 : decide (pl = ql) = false := decide_eq_false hx
                      have HNN := Lib.hid hx
                      clear hx
                      go_wp2
                      go_quiet (fail)
                      go_wp2
                      go_ret
                      refine ⟨ret_b ?_, _, World.drewN_drewN _ _ _⟩
                      rw [HJ.out, sameT_at _ la lb i hia hib, HA.out, HB.out]
                      simp only
                      simp [HNN.out]
                  · clear hp
                    have hnd : (pa == qa) = false := by rw [beq_eq_false_iff_ne]; exact hx
                    have hnd' : (pa != qa) = true := by rw [bne_iff_ne]; exact hx
                    have hnd2 : decide (pa = qa) = false := decide_eq_false hx
                    have HNN := Lib.hid hx
                    clear hx
                    go_wp2
                    go_quiet (fail)
                    go_wp2
                    go_ret
                    refine ⟨ret_b ?_, _, World.drewN_drewN _ _ _⟩
                    rw [HJ.out, sameT_at _ la lb i hia hib, HA.out, HB.out]
                    simp only
                    simp [HNN.out]
            · have hnd : (na == nb) = false := by rw [beq_eq_false_iff_ne]; exact hnn
              have hnd' : (na != nb) = true := by rw [bne_iff_ne]; exact hnn
              have HNN := Lib.hid hnn
              clear hnn
              go_wp2
              go_quiet (fail)
              go_wp2
              go_ret
              refine ⟨ret_b ?_, _, World.drewN_drewN _ _ _⟩
              rw [HJ.out, sameT_at _ la lb i hia hib, HA.out, HB.out]
              simp only
              simp [HNN.out]
          · have hnd : (ta == tb) = false := by rw [beq_eq_false_iff_ne]; exact ht
            have hnd' : (ta != tb) = true := by rw [bne_iff_ne]; exact ht
            have HNN := Lib.hid ht
            clear ht
            go_wp2
            go_quiet (fail)
            go_wp2
            go_ret
            refine ⟨ret_b ?_, _, World.drewN_drewN _ _ _⟩
            rw [HJ.out, sameT_at _ la lb i hia hib, HA.out, HB.out]
            simp only
            simp [HNN.out]
        · have hnd : (ka == kb) = false := by rw [beq_eq_false_iff_ne]; exact hk
          have hnd' : (ka != kb) = true := by rw [bne_iff_ne]; exact hk
          have HNN := Lib.hid hk
          clear hk
          go_wp2
          go_quiet (fail)
          go_wp2
          go_ret
          refine ⟨ret_b ?_, _, World.drewN_drewN _ _ _⟩
          rw [HJ.out, sameT_at _ la lb i hia hib, HA.out, HB.out]
          simp only
          simp [HNN.out]
      · go_wp2
        go_ret
        refine ⟨ret_b ?_, _, rfl⟩
        rw [HJ.out, List.drop_of_length_le (by rw [HN1.out]; omega), List.drop_of_length_le (by rw [HN2.out]; omega)]
        rfl
  · have hnd : (n1 != n2) = true := by rw [bne_iff_ne]; exact hne
    have hnd' : (n1 == n2) = false := by rw [beq_eq_false_iff_ne]; exact hne
    have HNE := Lib.hid hne
    clear hn1 hn2 hne
    go_enter Tryz.func13, Tryz.ntmps13
    go_wp2
    go_ret
    refine ⟨ret_b ?_, 0, rfl⟩
    exact (sameT_len at' la lb (by rw [HN1.out, HN2.out]; exact HNE.out)).symm
end Go.Proofs.YtaojgcioljcpmaaGreatDoor
