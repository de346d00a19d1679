/- Contracts: slices.EqualFunc, alike, deepest at the lists of the syntax, for any closure given by its contract. Written by gen_eqf.py. -/
import Derived.Test.YtnneooidkbhbeaaGreatDoorExp
import Derived.Deep.Light
set_option linter.unusedVariables false
set_option linter.unusedSimpArgs false
namespace Go.Proofs.YtnneooidkbhbeaaGreatDoor
open Go.RowKit

def eqL {α : Type} (p : α → α → Bool) : List α → List α → Bool
  | [], [] => true
  | x :: r, y :: s => p x y && eqL p r s
  | _, _ => false
theorem eqL_len {α : Type} (p : α → α → Bool) : ∀ (l m : List α), l.length ≠ m.length → eqL p l m = false
  | [], [], h => absurd rfl h
  | [], _ :: _, _ => rfl
  | _ :: _, [], _ => rfl
  | x :: r, y :: s, h => by
    simp only [eqL]
    rw [eqL_len p r s (fun e => h (by simp [e]))]; simp
theorem eqL_drop {α : Type} (p : α → α → Bool) (l m : List α) (k : Nat) (h : k < l.length) (h2 : k < m.length) : eqL p (l.drop k) (m.drop k) = (p l[k] m[k] && eqL p (l.drop (k + 1)) (m.drop (k + 1))) := by
  rw [List.drop_eq_getElem_cons h, List.drop_eq_getElem_cons h2, eqL]
theorem eqL_end {α : Type} (p : α → α → Bool) (l m : List α) (k : Nat) (h : l.length ≤ k) (h2 : m.length ≤ k) : eqL p (l.drop k) (m.drop k) = true := by
  rw [List.drop_of_length_le h, List.drop_of_length_le h2]; rfl
/-- the greatest one -/
def maxL {α : Type} (p : α → Nat) : List α → Nat
  | [] => 0
  | x :: r => max (p x) (maxL p r)
theorem maxL_drop {α : Type} (p : α → Nat) (l : List α) (k : Nat) (h : k < l.length) : maxL p (l.drop k) = max (p l[k]) (maxL p (l.drop (k + 1))) := by
  rw [List.drop_eq_getElem_cons h, maxL]
theorem maxL_end {α : Type} (p : α → Nat) (l : List α) (k : Nat) (h : l.length ≤ k) : maxL p (l.drop k) = 0 := by
  rw [List.drop_of_length_le h]; rfl

set_option maxHeartbeats 2000000 in
theorem eqf_SExpr (l m : List SExpr) (v u : Value) (g : FuncId) (caps : Array Value) (p : SExpr → SExpr → Bool) (w : World) (hn : l.length ≤ 1048576) (hin : Enters Tryz.prog g) (hr : Rd w w.heap.size v (.list 8 l.length (l.flatMap SExpr.d))) (hr2 : Rd w w.heap.size u (.list 8 m.length (m.flatMap SExpr.d)))
    (hp : ∀ (i : Nat) (h : i < l.length) (h2 : i < m.length) (W : World) (us vs : List Value), Below w.heap.size w W → Rds w w.heap.size us (l[i]'h).d → Rds w w.heap.size vs (m[i]'h2).d → Calls Tryz.prog g (#[.agg us.toArray, .agg vs.toArray] ++ caps) W fun e w' => e = .returned (.bool (p (l[i]'h) (m[i]'h2))) ∧ Below W.heap.size W w') :
    Calls Tryz.prog 110 #[v, u, .func (.func g) #[] caps] w fun e w' => e = .returned (.bool (eqL p l m)) ∧ Below w.heap.size w w' := by
  obtain ⟨a, cap, rfl⟩ := hr.slice_inv
  obtain ⟨a', cap', rfl⟩ := hr2.slice_inv
  have HP := Lib.hid hp
  clear hp
  unfold Enters at hin
  by_cases hlen : l.length = m.length
  · have t0 : ((l.length : Int) != (m.length : Int)) = false := by simp [hlen]
    have HLEN := Lib.hid hlen
    clear hlen
    go_enter Tryz.func110, Tryz.ntmps110
    go_wp2
    go_loopw [17] (fun u wr => ∃ k : Nat, k ≤ l.length ∧ u = .int .i64 k ∧ Hid (eqL p l m = eqL p (l.drop k) (m.drop k)) ∧ Below w.heap.size w wr) (fun u _ => l.length - (intOf u).toNat)
    case atStart => exact ⟨0, Nat.zero_le _, rfl, rfl, Below.refl _ _⟩
    case round =>
      obtain ⟨k, hk, rfl, HE, hbel⟩ := hrel
      have hsz0 := hbel.size
      by_cases hltx : k < l.length
      · have hlty : k < m.length := by have := HLEN.out; omega
        obtain ⟨blx, offx, cpx, usx, hvx, hbx, hcx, hcellx, hux⟩ := hr.elem SExpr.d_len rfl k hltx (by omega)
        injection hvx with hax hnx hcapx
        subst hax hcapx
        obtain ⟨bly, offy, cpy, usy, hvy, hby, hcy, hcelly, huy⟩ := hr2.elem SExpr.d_len rfl k hlty (by omega)
        injection hvy with hay hny hcapy
        subst hay hcapy
        have HC := Lib.hid (fun (W : World) (hW : Below w.heap.size w W) => HP.out k hltx hlty W usx usy hW hux huy)
        obtain ⟨v6x, v7x, rfl, g6x, g7x, -⟩ := SExpr.cells hux
        obtain ⟨a6x, d6x, rfl⟩ := g6x.slice_inv
        obtain ⟨a7x, d7x, rfl⟩ := g7x.slice_inv
        obtain ⟨v6y, v7y, rfl, g6y, g7y, -⟩ := SExpr.cells huy
        obtain ⟨a6y, d6y, rfl⟩ := g6y.slice_inv
        obtain ⟨a7y, d7y, rfl⟩ := g7y.slice_inv
        have cx0 := (hbel.cell (p := ⟨blx, offx + k * 8, none⟩) hbx).trans (hcellx 0 _ rfl)
        have cx1 := (hbel.cell (p := ⟨blx, offx + k * 8 + 1, none⟩) hbx).trans (hcellx 1 _ rfl)
        have cx2 := (hbel.cell (p := ⟨blx, offx + k * 8 + 2, none⟩) hbx).trans (hcellx 2 _ rfl)
        have cx3 := (hbel.cell (p := ⟨blx, offx + k * 8 + 3, none⟩) hbx).trans (hcellx 3 _ rfl)
        have cx4 := (hbel.cell (p := ⟨blx, offx + k * 8 + 4, none⟩) hbx).trans (hcellx 4 _ rfl)
        have cx5 := (hbel.cell (p := ⟨blx, offx + k * 8 + 5, none⟩) hbx).trans (hcellx 5 _ rfl)
        have cx6 := (hbel.cell (p := ⟨blx, offx + k * 8 + 6, none⟩) hbx).trans (hcellx 6 _ rfl)
        have cx7 := (hbel.cell (p := ⟨blx, offx + k * 8 + 7, none⟩) hbx).trans (hcellx 7 _ rfl)
        have cy0 := (hbel.cell (p := ⟨bly, offy + k * 8, none⟩) hby).trans (hcelly 0 _ rfl)
        have cy1 := (hbel.cell (p := ⟨bly, offy + k * 8 + 1, none⟩) hby).trans (hcelly 1 _ rfl)
        have cy2 := (hbel.cell (p := ⟨bly, offy + k * 8 + 2, none⟩) hby).trans (hcelly 2 _ rfl)
        have cy3 := (hbel.cell (p := ⟨bly, offy + k * 8 + 3, none⟩) hby).trans (hcelly 3 _ rfl)
        have cy4 := (hbel.cell (p := ⟨bly, offy + k * 8 + 4, none⟩) hby).trans (hcelly 4 _ rfl)
        have cy5 := (hbel.cell (p := ⟨bly, offy + k * 8 + 5, none⟩) hby).trans (hcelly 5 _ rfl)
        have cy6 := (hbel.cell (p := ⟨bly, offy + k * 8 + 6, none⟩) hby).trans (hcelly 6 _ rfl)
        have cy7 := (hbel.cell (p := ⟨bly, offy + k * 8 + 7, none⟩) hby).trans (hcelly 7 _ rfl)
        clear hcellx hcelly hux huy g6x g7x g6y g7y
        have hly : bly < wr.heap.size := by omega
        have ky : (k : Int) < (m.length : Int) := by omega
        have k0 : (0 : Int) ≤ (k : Int) := by omega

        go_wp2_with fail
        refine (HC.out _ (by first | exact hbel | (repeat (with_reducible first | exact hbel | refine Below.alloc ?_ ?_ _)) <;> first | omega | (simp; omega) | (simp; done))).mono ?_
        rintro e w2 ⟨rfl, hb2⟩
        have hs2 := hb2.size
        have hfin : Below w.heap.size w w2 := Below.trans (by first | exact hbel | (repeat (with_reducible first | exact hbel | refine Below.alloc ?_ ?_ _)) <;> first | omega | (simp; omega) | (simp; done)) (hb2.mono (by have := hbel.size; first | omega | (simp; omega)))
        clear cx0 cy0 cx1 cy1 cx2 cy2 cx3 cy3 cx4 cy4 cx5 cy5 cx6 cy6 cx7 cy7 hb2
        by_cases hpk : p l[k] m[k] = true
        · have HE2 := Lib.hid (show eqL p l m = eqL p (l.drop (k + 1)) (m.drop (k + 1)) by rw [HE.out, eqL_drop p l m k hltx hlty, hpk]; rfl)
          rw [hpk]
          clear hpk
          go_wp2
          go_roundw
          case rel => exact ⟨k + 1, hltx, by go_num, HE2, hfin⟩
          case measure => simp [intOf]; omega
        · have hpk' : p l[k] m[k] = false := by simpa using hpk
          have HE2 := Lib.hid (show eqL p l m = false by rw [HE.out, eqL_drop p l m k hltx hlty, hpk']; rfl)
          rw [hpk']
          clear hpk hpk'
          go_wp2
          go_ret
          exact ⟨ret_b HE2.out.symm, hfin⟩
      · have e1 : decide ((k : Int) < (l.length : Int)) = false := decide_eq_false (by omega)
        go_wp2
        go_ret
        exact ⟨ret_b (by rw [HE.out, eqL_end p l m k (by omega) (by have := HLEN.out; omega)]), hbel⟩
  · have t0 : ((l.length : Int) != (m.length : Int)) = true := by simp; omega
    have HE2 := Lib.hid (eqL_len p l m hlen)
    go_enter Tryz.func110, Tryz.ntmps110
    go_wp2
    go_ret
    exact ⟨ret_b HE2.out.symm, Below.refl _ _⟩

set_option maxHeartbeats 1000000 in
theorem alike_SExpr (l m : List SExpr) (v u : Value) (g : FuncId) (caps : Array Value) (p : SExpr → SExpr → Bool) (w : World) (hn : l.length ≤ 1048576) (hin : Enters Tryz.prog g) (hr : Rd w w.heap.size v (.list 8 l.length (l.flatMap SExpr.d))) (hr2 : Rd w w.heap.size u (.list 8 m.length (m.flatMap SExpr.d)))
    (hp : ∀ (i : Nat) (h : i < l.length) (h2 : i < m.length) (W : World) (us vs : List Value), Below w.heap.size w W → Rds w w.heap.size us (l[i]'h).d → Rds w w.heap.size vs (m[i]'h2).d → Calls Tryz.prog g (#[.agg us.toArray, .agg vs.toArray] ++ caps) W fun e w' => e = .returned (.bool (p (l[i]'h) (m[i]'h2))) ∧ Below W.heap.size W w') :
    Calls Tryz.prog 45 #[v, u, .func (.func g) #[] caps] w fun e w' => e = .returned (.bool (eqL p l m)) ∧ Below w.heap.size w w' := by
  have HF := Lib.hid (eqf_SExpr l m v u g caps p w hn hin hr hr2 hp)
  obtain ⟨a, cap, rfl⟩ := hr.slice_inv
  obtain ⟨a', cap', rfl⟩ := hr2.slice_inv
  clear hp hr hr2
  go_enter Tryz.func45, Tryz.ntmps45
  go_wp2_with fail
  refine HF.out.mono ?_
  rintro e w2 ⟨rfl, hb2⟩
  go_wp2
  go_ret
  exact ⟨rfl, hb2⟩

set_option maxHeartbeats 2000000 in
theorem eqf_SArm (l m : List SArm) (v u : Value) (g : FuncId) (caps : Array Value) (p : SArm → SArm → Bool) (w : World) (hn : l.length ≤ 1048576) (hin : Enters Tryz.prog g) (hr : Rd w w.heap.size v (.list 15 l.length (l.flatMap SArm.d))) (hr2 : Rd w w.heap.size u (.list 15 m.length (m.flatMap SArm.d)))
    (hp : ∀ (i : Nat) (h : i < l.length) (h2 : i < m.length) (W : World) (us vs : List Value), Below w.heap.size w W → Rds w w.heap.size us (l[i]'h).d → Rds w w.heap.size vs (m[i]'h2).d → Calls Tryz.prog g (#[.agg us.toArray, .agg vs.toArray] ++ caps) W fun e w' => e = .returned (.bool (p (l[i]'h) (m[i]'h2))) ∧ Below W.heap.size W w') :
    Calls Tryz.prog 111 #[v, u, .func (.func g) #[] caps] w fun e w' => e = .returned (.bool (eqL p l m)) ∧ Below w.heap.size w w' := by
  obtain ⟨a, cap, rfl⟩ := hr.slice_inv
  obtain ⟨a', cap', rfl⟩ := hr2.slice_inv
  have HP := Lib.hid hp
  clear hp
  unfold Enters at hin
  by_cases hlen : l.length = m.length
  · have t0 : ((l.length : Int) != (m.length : Int)) = false := by simp [hlen]
    have HLEN := Lib.hid hlen
    clear hlen
    go_enter Tryz.func111, Tryz.ntmps111
    go_wp2
    go_loopw [17] (fun u wr => ∃ k : Nat, k ≤ l.length ∧ u = .int .i64 k ∧ Hid (eqL p l m = eqL p (l.drop k) (m.drop k)) ∧ Below w.heap.size w wr) (fun u _ => l.length - (intOf u).toNat)
    case atStart => exact ⟨0, Nat.zero_le _, rfl, rfl, Below.refl _ _⟩
    case round =>
      obtain ⟨k, hk, rfl, HE, hbel⟩ := hrel
      have hsz0 := hbel.size
      by_cases hltx : k < l.length
      · have hlty : k < m.length := by have := HLEN.out; omega
        obtain ⟨blx, offx, cpx, usx, hvx, hbx, hcx, hcellx, hux⟩ := hr.elem SArm.d_len rfl k hltx (by omega)
        injection hvx with hax hnx hcapx
        subst hax hcapx
        obtain ⟨bly, offy, cpy, usy, hvy, hby, hcy, hcelly, huy⟩ := hr2.elem SArm.d_len rfl k hlty (by omega)
        injection hvy with hay hny hcapy
        subst hay hcapy
        have HC := Lib.hid (fun (W : World) (hW : Below w.heap.size w W) => HP.out k hltx hlty W usx usy hW hux huy)
        obtain ⟨upx, uex, rfl, hpx, hex⟩ := SArm.cells hux
        obtain ⟨v6px, rfl, g6px, -⟩ := SPat.cells hpx
        obtain ⟨a6px, d6px, rfl⟩ := g6px.slice_inv
        obtain ⟨v6ex, v7ex, rfl, g6ex, g7ex, -⟩ := SExpr.cells hex
        obtain ⟨a6ex, d6ex, rfl⟩ := g6ex.slice_inv
        obtain ⟨a7ex, d7ex, rfl⟩ := g7ex.slice_inv
        obtain ⟨upy, uey, rfl, hpy, hey⟩ := SArm.cells huy
        obtain ⟨v6py, rfl, g6py, -⟩ := SPat.cells hpy
        obtain ⟨a6py, d6py, rfl⟩ := g6py.slice_inv
        obtain ⟨v6ey, v7ey, rfl, g6ey, g7ey, -⟩ := SExpr.cells hey
        obtain ⟨a6ey, d6ey, rfl⟩ := g6ey.slice_inv
        obtain ⟨a7ey, d7ey, rfl⟩ := g7ey.slice_inv
        have cx0 := (hbel.cell (p := ⟨blx, offx + k * 15, none⟩) hbx).trans (hcellx 0 _ rfl)
        have cx1 := (hbel.cell (p := ⟨blx, offx + k * 15 + 1, none⟩) hbx).trans (hcellx 1 _ rfl)
        have cx2 := (hbel.cell (p := ⟨blx, offx + k * 15 + 2, none⟩) hbx).trans (hcellx 2 _ rfl)
        have cx3 := (hbel.cell (p := ⟨blx, offx + k * 15 + 3, none⟩) hbx).trans (hcellx 3 _ rfl)
        have cx4 := (hbel.cell (p := ⟨blx, offx + k * 15 + 4, none⟩) hbx).trans (hcellx 4 _ rfl)
        have cx5 := (hbel.cell (p := ⟨blx, offx + k * 15 + 5, none⟩) hbx).trans (hcellx 5 _ rfl)
        have cx6 := (hbel.cell (p := ⟨blx, offx + k * 15 + 6, none⟩) hbx).trans (hcellx 6 _ rfl)
        have cx7 := (hbel.cell (p := ⟨blx, offx + k * 15 + 7, none⟩) hbx).trans (hcellx 7 _ rfl)
        have cx8 := (hbel.cell (p := ⟨blx, offx + k * 15 + 8, none⟩) hbx).trans (hcellx 8 _ rfl)
        have cx9 := (hbel.cell (p := ⟨blx, offx + k * 15 + 9, none⟩) hbx).trans (hcellx 9 _ rfl)
        have cx10 := (hbel.cell (p := ⟨blx, offx + k * 15 + 10, none⟩) hbx).trans (hcellx 10 _ rfl)
        have cx11 := (hbel.cell (p := ⟨blx, offx + k * 15 + 11, none⟩) hbx).trans (hcellx 11 _ rfl)
        have cx12 := (hbel.cell (p := ⟨blx, offx + k * 15 + 12, none⟩) hbx).trans (hcellx 12 _ rfl)
        have cx13 := (hbel.cell (p := ⟨blx, offx + k * 15 + 13, none⟩) hbx).trans (hcellx 13 _ rfl)
        have cx14 := (hbel.cell (p := ⟨blx, offx + k * 15 + 14, none⟩) hbx).trans (hcellx 14 _ rfl)
        have cy0 := (hbel.cell (p := ⟨bly, offy + k * 15, none⟩) hby).trans (hcelly 0 _ rfl)
        have cy1 := (hbel.cell (p := ⟨bly, offy + k * 15 + 1, none⟩) hby).trans (hcelly 1 _ rfl)
        have cy2 := (hbel.cell (p := ⟨bly, offy + k * 15 + 2, none⟩) hby).trans (hcelly 2 _ rfl)
        have cy3 := (hbel.cell (p := ⟨bly, offy + k * 15 + 3, none⟩) hby).trans (hcelly 3 _ rfl)
        have cy4 := (hbel.cell (p := ⟨bly, offy + k * 15 + 4, none⟩) hby).trans (hcelly 4 _ rfl)
        have cy5 := (hbel.cell (p := ⟨bly, offy + k * 15 + 5, none⟩) hby).trans (hcelly 5 _ rfl)
        have cy6 := (hbel.cell (p := ⟨bly, offy + k * 15 + 6, none⟩) hby).trans (hcelly 6 _ rfl)
        have cy7 := (hbel.cell (p := ⟨bly, offy + k * 15 + 7, none⟩) hby).trans (hcelly 7 _ rfl)
        have cy8 := (hbel.cell (p := ⟨bly, offy + k * 15 + 8, none⟩) hby).trans (hcelly 8 _ rfl)
        have cy9 := (hbel.cell (p := ⟨bly, offy + k * 15 + 9, none⟩) hby).trans (hcelly 9 _ rfl)
        have cy10 := (hbel.cell (p := ⟨bly, offy + k * 15 + 10, none⟩) hby).trans (hcelly 10 _ rfl)
        have cy11 := (hbel.cell (p := ⟨bly, offy + k * 15 + 11, none⟩) hby).trans (hcelly 11 _ rfl)
        have cy12 := (hbel.cell (p := ⟨bly, offy + k * 15 + 12, none⟩) hby).trans (hcelly 12 _ rfl)
        have cy13 := (hbel.cell (p := ⟨bly, offy + k * 15 + 13, none⟩) hby).trans (hcelly 13 _ rfl)
        have cy14 := (hbel.cell (p := ⟨bly, offy + k * 15 + 14, none⟩) hby).trans (hcelly 14 _ rfl)
        clear hcellx hcelly hux huy g6px g6ex g7ex hpx hex g6py g6ey g7ey hpy hey
        have hly : bly < wr.heap.size := by omega
        have ky : (k : Int) < (m.length : Int) := by omega
        have k0 : (0 : Int) ≤ (k : Int) := by omega

        go_wp2_with fail
        refine (HC.out _ (by first | exact hbel | (repeat (with_reducible first | exact hbel | refine Below.alloc ?_ ?_ _)) <;> first | omega | (simp; omega) | (simp; done))).mono ?_
        rintro e w2 ⟨rfl, hb2⟩
        have hs2 := hb2.size
        have hfin : Below w.heap.size w w2 := Below.trans (by first | exact hbel | (repeat (with_reducible first | exact hbel | refine Below.alloc ?_ ?_ _)) <;> first | omega | (simp; omega) | (simp; done)) (hb2.mono (by have := hbel.size; first | omega | (simp; omega)))
        clear cx0 cy0 cx1 cy1 cx2 cy2 cx3 cy3 cx4 cy4 cx5 cy5 cx6 cy6 cx7 cy7 cx8 cy8 cx9 cy9 cx10 cy10 cx11 cy11 cx12 cy12 cx13 cy13 cx14 cy14 hb2
        by_cases hpk : p l[k] m[k] = true
        · have HE2 := Lib.hid (show eqL p l m = eqL p (l.drop (k + 1)) (m.drop (k + 1)) by rw [HE.out, eqL_drop p l m k hltx hlty, hpk]; rfl)
          rw [hpk]
          clear hpk
          go_wp2
          go_roundw
          case rel => exact ⟨k + 1, hltx, by go_num, HE2, hfin⟩
          case measure => simp [intOf]; omega
        · have hpk' : p l[k] m[k] = false := by simpa using hpk
          have HE2 := Lib.hid (show eqL p l m = false by rw [HE.out, eqL_drop p l m k hltx hlty, hpk']; rfl)
          rw [hpk']
          clear hpk hpk'
          go_wp2
          go_ret
          exact ⟨ret_b HE2.out.symm, hfin⟩
      · have e1 : decide ((k : Int) < (l.length : Int)) = false := decide_eq_false (by omega)
        go_wp2
        go_ret
        exact ⟨ret_b (by rw [HE.out, eqL_end p l m k (by omega) (by have := HLEN.out; omega)]), hbel⟩
  · have t0 : ((l.length : Int) != (m.length : Int)) = true := by simp; omega
    have HE2 := Lib.hid (eqL_len p l m hlen)
    go_enter Tryz.func111, Tryz.ntmps111
    go_wp2
    go_ret
    exact ⟨ret_b HE2.out.symm, Below.refl _ _⟩

set_option maxHeartbeats 1000000 in
theorem alike_SArm (l m : List SArm) (v u : Value) (g : FuncId) (caps : Array Value) (p : SArm → SArm → Bool) (w : World) (hn : l.length ≤ 1048576) (hin : Enters Tryz.prog g) (hr : Rd w w.heap.size v (.list 15 l.length (l.flatMap SArm.d))) (hr2 : Rd w w.heap.size u (.list 15 m.length (m.flatMap SArm.d)))
    (hp : ∀ (i : Nat) (h : i < l.length) (h2 : i < m.length) (W : World) (us vs : List Value), Below w.heap.size w W → Rds w w.heap.size us (l[i]'h).d → Rds w w.heap.size vs (m[i]'h2).d → Calls Tryz.prog g (#[.agg us.toArray, .agg vs.toArray] ++ caps) W fun e w' => e = .returned (.bool (p (l[i]'h) (m[i]'h2))) ∧ Below W.heap.size W w') :
    Calls Tryz.prog 46 #[v, u, .func (.func g) #[] caps] w fun e w' => e = .returned (.bool (eqL p l m)) ∧ Below w.heap.size w w' := by
  have HF := Lib.hid (eqf_SArm l m v u g caps p w hn hin hr hr2 hp)
  obtain ⟨a, cap, rfl⟩ := hr.slice_inv
  obtain ⟨a', cap', rfl⟩ := hr2.slice_inv
  clear hp hr hr2
  go_enter Tryz.func46, Tryz.ntmps46
  go_wp2_with fail
  refine HF.out.mono ?_
  rintro e w2 ⟨rfl, hb2⟩
  go_wp2
  go_ret
  exact ⟨rfl, hb2⟩

set_option maxHeartbeats 2000000 in
theorem eqf_SPat (l m : List SPat) (v u : Value) (g : FuncId) (caps : Array Value) (p : SPat → SPat → Bool) (w : World) (hn : l.length ≤ 1048576) (hin : Enters Tryz.prog g) (hr : Rd w w.heap.size v (.list 7 l.length (l.flatMap SPat.d))) (hr2 : Rd w w.heap.size u (.list 7 m.length (m.flatMap SPat.d)))
    (hp : ∀ (i : Nat) (h : i < l.length) (h2 : i < m.length) (W : World) (us vs : List Value), Below w.heap.size w W → Rds w w.heap.size us (l[i]'h).d → Rds w w.heap.size vs (m[i]'h2).d → Calls Tryz.prog g (#[.agg us.toArray, .agg vs.toArray] ++ caps) W fun e w' => e = .returned (.bool (p (l[i]'h) (m[i]'h2))) ∧ Below W.heap.size W w') :
    Calls Tryz.prog 150 #[v, u, .func (.func g) #[] caps] w fun e w' => e = .returned (.bool (eqL p l m)) ∧ Below w.heap.size w w' := by
  obtain ⟨a, cap, rfl⟩ := hr.slice_inv
  obtain ⟨a', cap', rfl⟩ := hr2.slice_inv
  have HP := Lib.hid hp
  clear hp
  unfold Enters at hin
  by_cases hlen : l.length = m.length
  · have t0 : ((l.length : Int) != (m.length : Int)) = false := by simp [hlen]
    have HLEN := Lib.hid hlen
    clear hlen
    go_enter Tryz.func150, Tryz.ntmps150
    go_wp2
    go_loopw [17] (fun u wr => ∃ k : Nat, k ≤ l.length ∧ u = .int .i64 k ∧ Hid (eqL p l m = eqL p (l.drop k) (m.drop k)) ∧ Below w.heap.size w wr) (fun u _ => l.length - (intOf u).toNat)
    case atStart => exact ⟨0, Nat.zero_le _, rfl, rfl, Below.refl _ _⟩
    case round =>
      obtain ⟨k, hk, rfl, HE, hbel⟩ := hrel
      have hsz0 := hbel.size
      by_cases hltx : k < l.length
      · have hlty : k < m.length := by have := HLEN.out; omega
        obtain ⟨blx, offx, cpx, usx, hvx, hbx, hcx, hcellx, hux⟩ := hr.elem SPat.d_len rfl k hltx (by omega)
        injection hvx with hax hnx hcapx
        subst hax hcapx
        obtain ⟨bly, offy, cpy, usy, hvy, hby, hcy, hcelly, huy⟩ := hr2.elem SPat.d_len rfl k hlty (by omega)
        injection hvy with hay hny hcapy
        subst hay hcapy
        have HC := Lib.hid (fun (W : World) (hW : Below w.heap.size w W) => HP.out k hltx hlty W usx usy hW hux huy)
        obtain ⟨v6x, rfl, g6x, -⟩ := SPat.cells hux
        obtain ⟨a6x, d6x, rfl⟩ := g6x.slice_inv
        obtain ⟨v6y, rfl, g6y, -⟩ := SPat.cells huy
        obtain ⟨a6y, d6y, rfl⟩ := g6y.slice_inv
        have cx0 := (hbel.cell (p := ⟨blx, offx + k * 7, none⟩) hbx).trans (hcellx 0 _ rfl)
        have cx1 := (hbel.cell (p := ⟨blx, offx + k * 7 + 1, none⟩) hbx).trans (hcellx 1 _ rfl)
        have cx2 := (hbel.cell (p := ⟨blx, offx + k * 7 + 2, none⟩) hbx).trans (hcellx 2 _ rfl)
        have cx3 := (hbel.cell (p := ⟨blx, offx + k * 7 + 3, none⟩) hbx).trans (hcellx 3 _ rfl)
        have cx4 := (hbel.cell (p := ⟨blx, offx + k * 7 + 4, none⟩) hbx).trans (hcellx 4 _ rfl)
        have cx5 := (hbel.cell (p := ⟨blx, offx + k * 7 + 5, none⟩) hbx).trans (hcellx 5 _ rfl)
        have cx6 := (hbel.cell (p := ⟨blx, offx + k * 7 + 6, none⟩) hbx).trans (hcellx 6 _ rfl)
        have cy0 := (hbel.cell (p := ⟨bly, offy + k * 7, none⟩) hby).trans (hcelly 0 _ rfl)
        have cy1 := (hbel.cell (p := ⟨bly, offy + k * 7 + 1, none⟩) hby).trans (hcelly 1 _ rfl)
        have cy2 := (hbel.cell (p := ⟨bly, offy + k * 7 + 2, none⟩) hby).trans (hcelly 2 _ rfl)
        have cy3 := (hbel.cell (p := ⟨bly, offy + k * 7 + 3, none⟩) hby).trans (hcelly 3 _ rfl)
        have cy4 := (hbel.cell (p := ⟨bly, offy + k * 7 + 4, none⟩) hby).trans (hcelly 4 _ rfl)
        have cy5 := (hbel.cell (p := ⟨bly, offy + k * 7 + 5, none⟩) hby).trans (hcelly 5 _ rfl)
        have cy6 := (hbel.cell (p := ⟨bly, offy + k * 7 + 6, none⟩) hby).trans (hcelly 6 _ rfl)
        clear hcellx hcelly hux huy g6x g6y
        have hly : bly < wr.heap.size := by omega
        have ky : (k : Int) < (m.length : Int) := by omega
        have k0 : (0 : Int) ≤ (k : Int) := by omega

        go_wp2_with fail
        refine (HC.out _ (by first | exact hbel | (repeat (with_reducible first | exact hbel | refine Below.alloc ?_ ?_ _)) <;> first | omega | (simp; omega) | (simp; done))).mono ?_
        rintro e w2 ⟨rfl, hb2⟩
        have hs2 := hb2.size
        have hfin : Below w.heap.size w w2 := Below.trans (by first | exact hbel | (repeat (with_reducible first | exact hbel | refine Below.alloc ?_ ?_ _)) <;> first | omega | (simp; omega) | (simp; done)) (hb2.mono (by have := hbel.size; first | omega | (simp; omega)))
        clear cx0 cy0 cx1 cy1 cx2 cy2 cx3 cy3 cx4 cy4 cx5 cy5 cx6 cy6 hb2
        by_cases hpk : p l[k] m[k] = true
        · have HE2 := Lib.hid (show eqL p l m = eqL p (l.drop (k + 1)) (m.drop (k + 1)) by rw [HE.out, eqL_drop p l m k hltx hlty, hpk]; rfl)
          rw [hpk]
          clear hpk
          go_wp2
          go_roundw
          case rel => exact ⟨k + 1, hltx, by go_num, HE2, hfin⟩
          case measure => simp [intOf]; omega
        · have hpk' : p l[k] m[k] = false := by simpa using hpk
          have HE2 := Lib.hid (show eqL p l m = false by rw [HE.out, eqL_drop p l m k hltx hlty, hpk']; rfl)
          rw [hpk']
          clear hpk hpk'
          go_wp2
          go_ret
          exact ⟨ret_b HE2.out.symm, hfin⟩
      · have e1 : decide ((k : Int) < (l.length : Int)) = false := decide_eq_false (by omega)
        go_wp2
        go_ret
        exact ⟨ret_b (by rw [HE.out, eqL_end p l m k (by omega) (by have := HLEN.out; omega)]), hbel⟩
  · have t0 : ((l.length : Int) != (m.length : Int)) = true := by simp; omega
    have HE2 := Lib.hid (eqL_len p l m hlen)
    go_enter Tryz.func150, Tryz.ntmps150
    go_wp2
    go_ret
    exact ⟨ret_b HE2.out.symm, Below.refl _ _⟩

set_option maxHeartbeats 1000000 in
theorem alike_SPat (l m : List SPat) (v u : Value) (g : FuncId) (caps : Array Value) (p : SPat → SPat → Bool) (w : World) (hn : l.length ≤ 1048576) (hin : Enters Tryz.prog g) (hr : Rd w w.heap.size v (.list 7 l.length (l.flatMap SPat.d))) (hr2 : Rd w w.heap.size u (.list 7 m.length (m.flatMap SPat.d)))
    (hp : ∀ (i : Nat) (h : i < l.length) (h2 : i < m.length) (W : World) (us vs : List Value), Below w.heap.size w W → Rds w w.heap.size us (l[i]'h).d → Rds w w.heap.size vs (m[i]'h2).d → Calls Tryz.prog g (#[.agg us.toArray, .agg vs.toArray] ++ caps) W fun e w' => e = .returned (.bool (p (l[i]'h) (m[i]'h2))) ∧ Below W.heap.size W w') :
    Calls Tryz.prog 112 #[v, u, .func (.func g) #[] caps] w fun e w' => e = .returned (.bool (eqL p l m)) ∧ Below w.heap.size w w' := by
  have HF := Lib.hid (eqf_SPat l m v u g caps p w hn hin hr hr2 hp)
  obtain ⟨a, cap, rfl⟩ := hr.slice_inv
  obtain ⟨a', cap', rfl⟩ := hr2.slice_inv
  clear hp hr hr2
  go_enter Tryz.func112, Tryz.ntmps112
  go_wp2_with fail
  refine HF.out.mono ?_
  rintro e w2 ⟨rfl, hb2⟩
  go_wp2
  go_ret
  exact ⟨rfl, hb2⟩

set_option maxHeartbeats 2000000 in
theorem eqf_STy (l m : List STy) (v u : Value) (g : FuncId) (caps : Array Value) (p : STy → STy → Bool) (w : World) (hn : l.length ≤ 1048576) (hin : Enters Tryz.prog g) (hr : Rd w w.heap.size v (.list 7 l.length (l.flatMap STy.d))) (hr2 : Rd w w.heap.size u (.list 7 m.length (m.flatMap STy.d)))
    (hp : ∀ (i : Nat) (h : i < l.length) (h2 : i < m.length) (W : World) (us vs : List Value), Below w.heap.size w W → Rds w w.heap.size us (l[i]'h).d → Rds w w.heap.size vs (m[i]'h2).d → Calls Tryz.prog g (#[.agg us.toArray, .agg vs.toArray] ++ caps) W fun e w' => e = .returned (.bool (p (l[i]'h) (m[i]'h2))) ∧ Below W.heap.size W w') :
    Calls Tryz.prog 151 #[v, u, .func (.func g) #[] caps] w fun e w' => e = .returned (.bool (eqL p l m)) ∧ Below w.heap.size w w' := by
  obtain ⟨a, cap, rfl⟩ := hr.slice_inv
  obtain ⟨a', cap', rfl⟩ := hr2.slice_inv
  have HP := Lib.hid hp
  clear hp
  unfold Enters at hin
  by_cases hlen : l.length = m.length
  · have t0 : ((l.length : Int) != (m.length : Int)) = false := by simp [hlen]
    have HLEN := Lib.hid hlen
    clear hlen
    go_enter Tryz.func151, Tryz.ntmps151
    go_wp2
    go_loopw [17] (fun u wr => ∃ k : Nat, k ≤ l.length ∧ u = .int .i64 k ∧ Hid (eqL p l m = eqL p (l.drop k) (m.drop k)) ∧ Below w.heap.size w wr) (fun u _ => l.length - (intOf u).toNat)
    case atStart => exact ⟨0, Nat.zero_le _, rfl, rfl, Below.refl _ _⟩
    case round =>
      obtain ⟨k, hk, rfl, HE, hbel⟩ := hrel
      have hsz0 := hbel.size
      by_cases hltx : k < l.length
      · have hlty : k < m.length := by have := HLEN.out; omega
        obtain ⟨blx, offx, cpx, usx, hvx, hbx, hcx, hcellx, hux⟩ := hr.elem STy.d_len rfl k hltx (by omega)
        injection hvx with hax hnx hcapx
        subst hax hcapx
        obtain ⟨bly, offy, cpy, usy, hvy, hby, hcy, hcelly, huy⟩ := hr2.elem STy.d_len rfl k hlty (by omega)
        injection hvy with hay hny hcapy
        subst hay hcapy
        have HC := Lib.hid (fun (W : World) (hW : Below w.heap.size w W) => HP.out k hltx hlty W usx usy hW hux huy)
        obtain ⟨v6x, rfl, g6x, -⟩ := STy.cells hux
        obtain ⟨a6x, d6x, rfl⟩ := g6x.slice_inv
        obtain ⟨v6y, rfl, g6y, -⟩ := STy.cells huy
        obtain ⟨a6y, d6y, rfl⟩ := g6y.slice_inv
        have cx0 := (hbel.cell (p := ⟨blx, offx + k * 7, none⟩) hbx).trans (hcellx 0 _ rfl)
        have cx1 := (hbel.cell (p := ⟨blx, offx + k * 7 + 1, none⟩) hbx).trans (hcellx 1 _ rfl)
        have cx2 := (hbel.cell (p := ⟨blx, offx + k * 7 + 2, none⟩) hbx).trans (hcellx 2 _ rfl)
        have cx3 := (hbel.cell (p := ⟨blx, offx + k * 7 + 3, none⟩) hbx).trans (hcellx 3 _ rfl)
        have cx4 := (hbel.cell (p := ⟨blx, offx + k * 7 + 4, none⟩) hbx).trans (hcellx 4 _ rfl)
        have cx5 := (hbel.cell (p := ⟨blx, offx + k * 7 + 5, none⟩) hbx).trans (hcellx 5 _ rfl)
        have cx6 := (hbel.cell (p := ⟨blx, offx + k * 7 + 6, none⟩) hbx).trans (hcellx 6 _ rfl)
        have cy0 := (hbel.cell (p := ⟨bly, offy + k * 7, none⟩) hby).trans (hcelly 0 _ rfl)
        have cy1 := (hbel.cell (p := ⟨bly, offy + k * 7 + 1, none⟩) hby).trans (hcelly 1 _ rfl)
        have cy2 := (hbel.cell (p := ⟨bly, offy + k * 7 + 2, none⟩) hby).trans (hcelly 2 _ rfl)
        have cy3 := (hbel.cell (p := ⟨bly, offy + k * 7 + 3, none⟩) hby).trans (hcelly 3 _ rfl)
        have cy4 := (hbel.cell (p := ⟨bly, offy + k * 7 + 4, none⟩) hby).trans (hcelly 4 _ rfl)
        have cy5 := (hbel.cell (p := ⟨bly, offy + k * 7 + 5, none⟩) hby).trans (hcelly 5 _ rfl)
        have cy6 := (hbel.cell (p := ⟨bly, offy + k * 7 + 6, none⟩) hby).trans (hcelly 6 _ rfl)
        clear hcellx hcelly hux huy g6x g6y
        have hly : bly < wr.heap.size := by omega
        have ky : (k : Int) < (m.length : Int) := by omega
        have k0 : (0 : Int) ≤ (k : Int) := by omega

        go_wp2_with fail
        refine (HC.out _ (by first | exact hbel | (repeat (with_reducible first | exact hbel | refine Below.alloc ?_ ?_ _)) <;> first | omega | (simp; omega) | (simp; done))).mono ?_
        rintro e w2 ⟨rfl, hb2⟩
        have hs2 := hb2.size
        have hfin : Below w.heap.size w w2 := Below.trans (by first | exact hbel | (repeat (with_reducible first | exact hbel | refine Below.alloc ?_ ?_ _)) <;> first | omega | (simp; omega) | (simp; done)) (hb2.mono (by have := hbel.size; first | omega | (simp; omega)))
        clear cx0 cy0 cx1 cy1 cx2 cy2 cx3 cy3 cx4 cy4 cx5 cy5 cx6 cy6 hb2
        by_cases hpk : p l[k] m[k] = true
        · have HE2 := Lib.hid (show eqL p l m = eqL p (l.drop (k + 1)) (m.drop (k + 1)) by rw [HE.out, eqL_drop p l m k hltx hlty, hpk]; rfl)
          rw [hpk]
          clear hpk
          go_wp2
          go_roundw
          case rel => exact ⟨k + 1, hltx, by go_num, HE2, hfin⟩
          case measure => simp [intOf]; omega
        · have hpk' : p l[k] m[k] = false := by simpa using hpk
          have HE2 := Lib.hid (show eqL p l m = false by rw [HE.out, eqL_drop p l m k hltx hlty, hpk']; rfl)
          rw [hpk']
          clear hpk hpk'
          go_wp2
          go_ret
          exact ⟨ret_b HE2.out.symm, hfin⟩
      · have e1 : decide ((k : Int) < (l.length : Int)) = false := decide_eq_false (by omega)
        go_wp2
        go_ret
        exact ⟨ret_b (by rw [HE.out, eqL_end p l m k (by omega) (by have := HLEN.out; omega)]), hbel⟩
  · have t0 : ((l.length : Int) != (m.length : Int)) = true := by simp; omega
    have HE2 := Lib.hid (eqL_len p l m hlen)
    go_enter Tryz.func151, Tryz.ntmps151
    go_wp2
    go_ret
    exact ⟨ret_b HE2.out.symm, Below.refl _ _⟩

set_option maxHeartbeats 1000000 in
theorem alike_STy (l m : List STy) (v u : Value) (g : FuncId) (caps : Array Value) (p : STy → STy → Bool) (w : World) (hn : l.length ≤ 1048576) (hin : Enters Tryz.prog g) (hr : Rd w w.heap.size v (.list 7 l.length (l.flatMap STy.d))) (hr2 : Rd w w.heap.size u (.list 7 m.length (m.flatMap STy.d)))
    (hp : ∀ (i : Nat) (h : i < l.length) (h2 : i < m.length) (W : World) (us vs : List Value), Below w.heap.size w W → Rds w w.heap.size us (l[i]'h).d → Rds w w.heap.size vs (m[i]'h2).d → Calls Tryz.prog g (#[.agg us.toArray, .agg vs.toArray] ++ caps) W fun e w' => e = .returned (.bool (p (l[i]'h) (m[i]'h2))) ∧ Below W.heap.size W w') :
    Calls Tryz.prog 116 #[v, u, .func (.func g) #[] caps] w fun e w' => e = .returned (.bool (eqL p l m)) ∧ Below w.heap.size w w' := by
  have HF := Lib.hid (eqf_STy l m v u g caps p w hn hin hr hr2 hp)
  obtain ⟨a, cap, rfl⟩ := hr.slice_inv
  obtain ⟨a', cap', rfl⟩ := hr2.slice_inv
  clear hp hr hr2
  go_enter Tryz.func116, Tryz.ntmps116
  go_wp2_with fail
  refine HF.out.mono ?_
  rintro e w2 ⟨rfl, hb2⟩
  go_wp2
  go_ret
  exact ⟨rfl, hb2⟩

set_option maxHeartbeats 2000000 in
theorem eqf_SConD (l m : List SConD) (v u : Value) (g : FuncId) (caps : Array Value) (p : SConD → SConD → Bool) (w : World) (hn : l.length ≤ 1048576) (hin : Enters Tryz.prog g) (hr : Rd w w.heap.size v (.list 5 l.length (l.flatMap SConD.d))) (hr2 : Rd w w.heap.size u (.list 5 m.length (m.flatMap SConD.d)))
    (hp : ∀ (i : Nat) (h : i < l.length) (h2 : i < m.length) (W : World) (us vs : List Value), Below w.heap.size w W → Rds w w.heap.size us (l[i]'h).d → Rds w w.heap.size vs (m[i]'h2).d → Calls Tryz.prog g (#[.agg us.toArray, .agg vs.toArray] ++ caps) W fun e w' => e = .returned (.bool (p (l[i]'h) (m[i]'h2))) ∧ Below W.heap.size W w') :
    Calls Tryz.prog 114 #[v, u, .func (.func g) #[] caps] w fun e w' => e = .returned (.bool (eqL p l m)) ∧ Below w.heap.size w w' := by
  obtain ⟨a, cap, rfl⟩ := hr.slice_inv
  obtain ⟨a', cap', rfl⟩ := hr2.slice_inv
  have HP := Lib.hid hp
  clear hp
  unfold Enters at hin
  by_cases hlen : l.length = m.length
  · have t0 : ((l.length : Int) != (m.length : Int)) = false := by simp [hlen]
    have HLEN := Lib.hid hlen
    clear hlen
    go_enter Tryz.func114, Tryz.ntmps114
    go_wp2
    go_loopw [17] (fun u wr => ∃ k : Nat, k ≤ l.length ∧ u = .int .i64 k ∧ Hid (eqL p l m = eqL p (l.drop k) (m.drop k)) ∧ Below w.heap.size w wr) (fun u _ => l.length - (intOf u).toNat)
    case atStart => exact ⟨0, Nat.zero_le _, rfl, rfl, Below.refl _ _⟩
    case round =>
      obtain ⟨k, hk, rfl, HE, hbel⟩ := hrel
      have hsz0 := hbel.size
      by_cases hltx : k < l.length
      · have hlty : k < m.length := by have := HLEN.out; omega
        obtain ⟨blx, offx, cpx, usx, hvx, hbx, hcx, hcellx, hux⟩ := hr.elem SConD.d_len rfl k hltx (by omega)
        injection hvx with hax hnx hcapx
        subst hax hcapx
        obtain ⟨bly, offy, cpy, usy, hvy, hby, hcy, hcelly, huy⟩ := hr2.elem SConD.d_len rfl k hlty (by omega)
        injection hvy with hay hny hcapy
        subst hay hcapy
        have HC := Lib.hid (fun (W : World) (hW : Below w.heap.size w W) => HP.out k hltx hlty W usx usy hW hux huy)
        obtain ⟨v6x, rfl, g6x, -⟩ := SConD.cells hux
        obtain ⟨a6x, d6x, rfl⟩ := g6x.slice_inv
        obtain ⟨v6y, rfl, g6y, -⟩ := SConD.cells huy
        obtain ⟨a6y, d6y, rfl⟩ := g6y.slice_inv
        have cx0 := (hbel.cell (p := ⟨blx, offx + k * 5, none⟩) hbx).trans (hcellx 0 _ rfl)
        have cx1 := (hbel.cell (p := ⟨blx, offx + k * 5 + 1, none⟩) hbx).trans (hcellx 1 _ rfl)
        have cx2 := (hbel.cell (p := ⟨blx, offx + k * 5 + 2, none⟩) hbx).trans (hcellx 2 _ rfl)
        have cx3 := (hbel.cell (p := ⟨blx, offx + k * 5 + 3, none⟩) hbx).trans (hcellx 3 _ rfl)
        have cx4 := (hbel.cell (p := ⟨blx, offx + k * 5 + 4, none⟩) hbx).trans (hcellx 4 _ rfl)
        have cy0 := (hbel.cell (p := ⟨bly, offy + k * 5, none⟩) hby).trans (hcelly 0 _ rfl)
        have cy1 := (hbel.cell (p := ⟨bly, offy + k * 5 + 1, none⟩) hby).trans (hcelly 1 _ rfl)
        have cy2 := (hbel.cell (p := ⟨bly, offy + k * 5 + 2, none⟩) hby).trans (hcelly 2 _ rfl)
        have cy3 := (hbel.cell (p := ⟨bly, offy + k * 5 + 3, none⟩) hby).trans (hcelly 3 _ rfl)
        have cy4 := (hbel.cell (p := ⟨bly, offy + k * 5 + 4, none⟩) hby).trans (hcelly 4 _ rfl)
        clear hcellx hcelly hux huy g6x g6y
        have hly : bly < wr.heap.size := by omega
        have ky : (k : Int) < (m.length : Int) := by omega
        have k0 : (0 : Int) ≤ (k : Int) := by omega

        go_wp2_with fail
        refine (HC.out _ (by first | exact hbel | (repeat (with_reducible first | exact hbel | refine Below.alloc ?_ ?_ _)) <;> first | omega | (simp; omega) | (simp; done))).mono ?_
        rintro e w2 ⟨rfl, hb2⟩
        have hs2 := hb2.size
        have hfin : Below w.heap.size w w2 := Below.trans (by first | exact hbel | (repeat (with_reducible first | exact hbel | refine Below.alloc ?_ ?_ _)) <;> first | omega | (simp; omega) | (simp; done)) (hb2.mono (by have := hbel.size; first | omega | (simp; omega)))
        clear cx0 cy0 cx1 cy1 cx2 cy2 cx3 cy3 cx4 cy4 hb2
        by_cases hpk : p l[k] m[k] = true
        · have HE2 := Lib.hid (show eqL p l m = eqL p (l.drop (k + 1)) (m.drop (k + 1)) by rw [HE.out, eqL_drop p l m k hltx hlty, hpk]; rfl)
          rw [hpk]
          clear hpk
          go_wp2
          go_roundw
          case rel => exact ⟨k + 1, hltx, by go_num, HE2, hfin⟩
          case measure => simp [intOf]; omega
        · have hpk' : p l[k] m[k] = false := by simpa using hpk
          have HE2 := Lib.hid (show eqL p l m = false by rw [HE.out, eqL_drop p l m k hltx hlty, hpk']; rfl)
          rw [hpk']
          clear hpk hpk'
          go_wp2
          go_ret
          exact ⟨ret_b HE2.out.symm, hfin⟩
      · have e1 : decide ((k : Int) < (l.length : Int)) = false := decide_eq_false (by omega)
        go_wp2
        go_ret
        exact ⟨ret_b (by rw [HE.out, eqL_end p l m k (by omega) (by have := HLEN.out; omega)]), hbel⟩
  · have t0 : ((l.length : Int) != (m.length : Int)) = true := by simp; omega
    have HE2 := Lib.hid (eqL_len p l m hlen)
    go_enter Tryz.func114, Tryz.ntmps114
    go_wp2
    go_ret
    exact ⟨ret_b HE2.out.symm, Below.refl _ _⟩

set_option maxHeartbeats 1000000 in
theorem alike_SConD (l m : List SConD) (v u : Value) (g : FuncId) (caps : Array Value) (p : SConD → SConD → Bool) (w : World) (hn : l.length ≤ 1048576) (hin : Enters Tryz.prog g) (hr : Rd w w.heap.size v (.list 5 l.length (l.flatMap SConD.d))) (hr2 : Rd w w.heap.size u (.list 5 m.length (m.flatMap SConD.d)))
    (hp : ∀ (i : Nat) (h : i < l.length) (h2 : i < m.length) (W : World) (us vs : List Value), Below w.heap.size w W → Rds w w.heap.size us (l[i]'h).d → Rds w w.heap.size vs (m[i]'h2).d → Calls Tryz.prog g (#[.agg us.toArray, .agg vs.toArray] ++ caps) W fun e w' => e = .returned (.bool (p (l[i]'h) (m[i]'h2))) ∧ Below W.heap.size W w') :
    Calls Tryz.prog 53 #[v, u, .func (.func g) #[] caps] w fun e w' => e = .returned (.bool (eqL p l m)) ∧ Below w.heap.size w w' := by
  have HF := Lib.hid (eqf_SConD l m v u g caps p w hn hin hr hr2 hp)
  obtain ⟨a, cap, rfl⟩ := hr.slice_inv
  obtain ⟨a', cap', rfl⟩ := hr2.slice_inv
  clear hp hr hr2
  go_enter Tryz.func53, Tryz.ntmps53
  go_wp2_with fail
  refine HF.out.mono ?_
  rintro e w2 ⟨rfl, hb2⟩
  go_wp2
  go_ret
  exact ⟨rfl, hb2⟩

set_option maxHeartbeats 2000000 in
theorem eqf_SField (l m : List SField) (v u : Value) (g : FuncId) (caps : Array Value) (p : SField → SField → Bool) (w : World) (hn : l.length ≤ 1048576) (hin : Enters Tryz.prog g) (hr : Rd w w.heap.size v (.list 8 l.length (l.flatMap SField.d))) (hr2 : Rd w w.heap.size u (.list 8 m.length (m.flatMap SField.d)))
    (hp : ∀ (i : Nat) (h : i < l.length) (h2 : i < m.length) (W : World) (us vs : List Value), Below w.heap.size w W → Rds w w.heap.size us (l[i]'h).d → Rds w w.heap.size vs (m[i]'h2).d → Calls Tryz.prog g (#[.agg us.toArray, .agg vs.toArray] ++ caps) W fun e w' => e = .returned (.bool (p (l[i]'h) (m[i]'h2))) ∧ Below W.heap.size W w') :
    Calls Tryz.prog 115 #[v, u, .func (.func g) #[] caps] w fun e w' => e = .returned (.bool (eqL p l m)) ∧ Below w.heap.size w w' := by
  obtain ⟨a, cap, rfl⟩ := hr.slice_inv
  obtain ⟨a', cap', rfl⟩ := hr2.slice_inv
  have HP := Lib.hid hp
  clear hp
  unfold Enters at hin
  by_cases hlen : l.length = m.length
  · have t0 : ((l.length : Int) != (m.length : Int)) = false := by simp [hlen]
    have HLEN := Lib.hid hlen
    clear hlen
    go_enter Tryz.func115, Tryz.ntmps115
    go_wp2
    go_loopw [17] (fun u wr => ∃ k : Nat, k ≤ l.length ∧ u = .int .i64 k ∧ Hid (eqL p l m = eqL p (l.drop k) (m.drop k)) ∧ Below w.heap.size w wr) (fun u _ => l.length - (intOf u).toNat)
    case atStart => exact ⟨0, Nat.zero_le _, rfl, rfl, Below.refl _ _⟩
    case round =>
      obtain ⟨k, hk, rfl, HE, hbel⟩ := hrel
      have hsz0 := hbel.size
      by_cases hltx : k < l.length
      · have hlty : k < m.length := by have := HLEN.out; omega
        obtain ⟨blx, offx, cpx, usx, hvx, hbx, hcx, hcellx, hux⟩ := hr.elem SField.d_len rfl k hltx (by omega)
        injection hvx with hax hnx hcapx
        subst hax hcapx
        obtain ⟨bly, offy, cpy, usy, hvy, hby, hcy, hcelly, huy⟩ := hr2.elem SField.d_len rfl k hlty (by omega)
        injection hvy with hay hny hcapy
        subst hay hcapy
        have HC := Lib.hid (fun (W : World) (hW : Below w.heap.size w W) => HP.out k hltx hlty W usx usy hW hux huy)
        obtain ⟨utx, rfl, htx, -⟩ := SField.cells hux
        obtain ⟨v6tx, rfl, g6tx, -⟩ := STy.cells htx
        obtain ⟨a6tx, d6tx, rfl⟩ := g6tx.slice_inv
        obtain ⟨uty, rfl, hty, -⟩ := SField.cells huy
        obtain ⟨v6ty, rfl, g6ty, -⟩ := STy.cells hty
        obtain ⟨a6ty, d6ty, rfl⟩ := g6ty.slice_inv
        have cx0 := (hbel.cell (p := ⟨blx, offx + k * 8, none⟩) hbx).trans (hcellx 0 _ rfl)
        have cx1 := (hbel.cell (p := ⟨blx, offx + k * 8 + 1, none⟩) hbx).trans (hcellx 1 _ rfl)
        have cx2 := (hbel.cell (p := ⟨blx, offx + k * 8 + 2, none⟩) hbx).trans (hcellx 2 _ rfl)
        have cx3 := (hbel.cell (p := ⟨blx, offx + k * 8 + 3, none⟩) hbx).trans (hcellx 3 _ rfl)
        have cx4 := (hbel.cell (p := ⟨blx, offx + k * 8 + 4, none⟩) hbx).trans (hcellx 4 _ rfl)
        have cx5 := (hbel.cell (p := ⟨blx, offx + k * 8 + 5, none⟩) hbx).trans (hcellx 5 _ rfl)
        have cx6 := (hbel.cell (p := ⟨blx, offx + k * 8 + 6, none⟩) hbx).trans (hcellx 6 _ rfl)
        have cx7 := (hbel.cell (p := ⟨blx, offx + k * 8 + 7, none⟩) hbx).trans (hcellx 7 _ rfl)
        have cy0 := (hbel.cell (p := ⟨bly, offy + k * 8, none⟩) hby).trans (hcelly 0 _ rfl)
        have cy1 := (hbel.cell (p := ⟨bly, offy + k * 8 + 1, none⟩) hby).trans (hcelly 1 _ rfl)
        have cy2 := (hbel.cell (p := ⟨bly, offy + k * 8 + 2, none⟩) hby).trans (hcelly 2 _ rfl)
        have cy3 := (hbel.cell (p := ⟨bly, offy + k * 8 + 3, none⟩) hby).trans (hcelly 3 _ rfl)
        have cy4 := (hbel.cell (p := ⟨bly, offy + k * 8 + 4, none⟩) hby).trans (hcelly 4 _ rfl)
        have cy5 := (hbel.cell (p := ⟨bly, offy + k * 8 + 5, none⟩) hby).trans (hcelly 5 _ rfl)
        have cy6 := (hbel.cell (p := ⟨bly, offy + k * 8 + 6, none⟩) hby).trans (hcelly 6 _ rfl)
        have cy7 := (hbel.cell (p := ⟨bly, offy + k * 8 + 7, none⟩) hby).trans (hcelly 7 _ rfl)
        clear hcellx hcelly hux huy g6tx htx g6ty hty
        have hly : bly < wr.heap.size := by omega
        have ky : (k : Int) < (m.length : Int) := by omega
        have k0 : (0 : Int) ≤ (k : Int) := by omega

        go_wp2_with fail
        refine (HC.out _ (by first | exact hbel | (repeat (with_reducible first | exact hbel | refine Below.alloc ?_ ?_ _)) <;> first | omega | (simp; omega) | (simp; done))).mono ?_
        rintro e w2 ⟨rfl, hb2⟩
        have hs2 := hb2.size
        have hfin : Below w.heap.size w w2 := Below.trans (by first | exact hbel | (repeat (with_reducible first | exact hbel | refine Below.alloc ?_ ?_ _)) <;> first | omega | (simp; omega) | (simp; done)) (hb2.mono (by have := hbel.size; first | omega | (simp; omega)))
        clear cx0 cy0 cx1 cy1 cx2 cy2 cx3 cy3 cx4 cy4 cx5 cy5 cx6 cy6 cx7 cy7 hb2
        by_cases hpk : p l[k] m[k] = true
        · have HE2 := Lib.hid (show eqL p l m = eqL p (l.drop (k + 1)) (m.drop (k + 1)) by rw [HE.out, eqL_drop p l m k hltx hlty, hpk]; rfl)
          rw [hpk]
          clear hpk
          go_wp2
          go_roundw
          case rel => exact ⟨k + 1, hltx, by go_num, HE2, hfin⟩
          case measure => simp [intOf]; omega
        · have hpk' : p l[k] m[k] = false := by simpa using hpk
          have HE2 := Lib.hid (show eqL p l m = false by rw [HE.out, eqL_drop p l m k hltx hlty, hpk']; rfl)
          rw [hpk']
          clear hpk hpk'
          go_wp2
          go_ret
          exact ⟨ret_b HE2.out.symm, hfin⟩
      · have e1 : decide ((k : Int) < (l.length : Int)) = false := decide_eq_false (by omega)
        go_wp2
        go_ret
        exact ⟨ret_b (by rw [HE.out, eqL_end p l m k (by omega) (by have := HLEN.out; omega)]), hbel⟩
  · have t0 : ((l.length : Int) != (m.length : Int)) = true := by simp; omega
    have HE2 := Lib.hid (eqL_len p l m hlen)
    go_enter Tryz.func115, Tryz.ntmps115
    go_wp2
    go_ret
    exact ⟨ret_b HE2.out.symm, Below.refl _ _⟩

set_option maxHeartbeats 1000000 in
theorem alike_SField (l m : List SField) (v u : Value) (g : FuncId) (caps : Array Value) (p : SField → SField → Bool) (w : World) (hn : l.length ≤ 1048576) (hin : Enters Tryz.prog g) (hr : Rd w w.heap.size v (.list 8 l.length (l.flatMap SField.d))) (hr2 : Rd w w.heap.size u (.list 8 m.length (m.flatMap SField.d)))
    (hp : ∀ (i : Nat) (h : i < l.length) (h2 : i < m.length) (W : World) (us vs : List Value), Below w.heap.size w W → Rds w w.heap.size us (l[i]'h).d → Rds w w.heap.size vs (m[i]'h2).d → Calls Tryz.prog g (#[.agg us.toArray, .agg vs.toArray] ++ caps) W fun e w' => e = .returned (.bool (p (l[i]'h) (m[i]'h2))) ∧ Below W.heap.size W w') :
    Calls Tryz.prog 55 #[v, u, .func (.func g) #[] caps] w fun e w' => e = .returned (.bool (eqL p l m)) ∧ Below w.heap.size w w' := by
  have HF := Lib.hid (eqf_SField l m v u g caps p w hn hin hr hr2 hp)
  obtain ⟨a, cap, rfl⟩ := hr.slice_inv
  obtain ⟨a', cap', rfl⟩ := hr2.slice_inv
  clear hp hr hr2
  go_enter Tryz.func55, Tryz.ntmps55
  go_wp2_with fail
  refine HF.out.mono ?_
  rintro e w2 ⟨rfl, hb2⟩
  go_wp2
  go_ret
  exact ⟨rfl, hb2⟩

set_option maxHeartbeats 2000000 in
theorem deepest_SExpr (l : List SExpr) (v : Value) (g : FuncId) (caps : Array Value) (p : SExpr → Nat) (w : World) (hn : l.length ≤ 1048576) (hin : Enters Tryz.prog g) (hr : Rd w w.heap.size v (.list 8 l.length (l.flatMap SExpr.d)))
    (hp : ∀ (i : Nat) (h : i < l.length) (W : World) (us : List Value), Below w.heap.size w W → Rds w w.heap.size us (l[i]'h).d → Calls Tryz.prog g (#[.agg us.toArray] ++ caps) W fun e w' => e = .returned (.int .i64 (p (l[i]'h))) ∧ Below W.heap.size W w') :
    Calls Tryz.prog 86 #[v, .func (.func g) #[] caps] w fun e w' => e = .returned (.int .i64 (maxL p l)) ∧ Below w.heap.size w w' := by
  obtain ⟨a, cap, rfl⟩ := hr.slice_inv
  have HP := Lib.hid hp
  clear hp
  unfold Enters at hin
  go_enter Tryz.func86, Tryz.ntmps86
  go_wp2
  go_loopw [5, 10] (fun u5 u wr => ∃ k acc : Nat, k ≤ l.length ∧ u = .int .i64 k ∧ u5 = .int .i64 acc ∧ Hid (maxL p l = max acc (maxL p (l.drop k))) ∧ Below w.heap.size w wr) (fun _ u _ => l.length - (intOf u).toNat)
  case atStart => exact ⟨0, 0, Nat.zero_le _, rfl, rfl, Lib.hid (by simp), Below.refl _ _⟩
  case round =>
    obtain ⟨k, acc, hk, rfl, rfl, HE, hbel⟩ := hrel
    have hsz0 := hbel.size
    by_cases hltx : k < l.length
    · obtain ⟨blx, offx, cpx, usx, hvx, hbx, hcx, hcellx, hux⟩ := hr.elem SExpr.d_len rfl k hltx (by omega)
      injection hvx with hax hnx hcapx
      subst hax hcapx
      have HC := Lib.hid (fun (W : World) (hW : Below w.heap.size w W) => HP.out k hltx W usx hW hux)
      have HE1 := Lib.hid (HE.out.trans (by rw [maxL_drop p l k hltx]))
      obtain ⟨pz, hpz⟩ : ∃ z, p l[k] = z := ⟨_, rfl⟩
      rw [hpz] at HC HE1
      obtain ⟨v6x, v7x, rfl, g6x, g7x, -⟩ := SExpr.cells hux
      obtain ⟨a6x, d6x, rfl⟩ := g6x.slice_inv
      obtain ⟨a7x, d7x, rfl⟩ := g7x.slice_inv
      have cx0 := (hbel.cell (p := ⟨blx, offx + k * 8, none⟩) hbx).trans (hcellx 0 _ rfl)
      have cx1 := (hbel.cell (p := ⟨blx, offx + k * 8 + 1, none⟩) hbx).trans (hcellx 1 _ rfl)
      have cx2 := (hbel.cell (p := ⟨blx, offx + k * 8 + 2, none⟩) hbx).trans (hcellx 2 _ rfl)
      have cx3 := (hbel.cell (p := ⟨blx, offx + k * 8 + 3, none⟩) hbx).trans (hcellx 3 _ rfl)
      have cx4 := (hbel.cell (p := ⟨blx, offx + k * 8 + 4, none⟩) hbx).trans (hcellx 4 _ rfl)
      have cx5 := (hbel.cell (p := ⟨blx, offx + k * 8 + 5, none⟩) hbx).trans (hcellx 5 _ rfl)
      have cx6 := (hbel.cell (p := ⟨blx, offx + k * 8 + 6, none⟩) hbx).trans (hcellx 6 _ rfl)
      have cx7 := (hbel.cell (p := ⟨blx, offx + k * 8 + 7, none⟩) hbx).trans (hcellx 7 _ rfl)
      clear hcellx hux hpz HE g6x g7x
      go_wp2_with fail
      refine (HC.out _ (by (repeat (with_reducible first | exact hbel | refine Below.alloc ?_ ?_ _)) <;> first | omega | (simp; omega) | (simp; done))).mono ?_
      rintro e w2 ⟨rfl, hb2⟩
      have hfin : Below w.heap.size w w2 := Below.trans (by (repeat (with_reducible first | exact hbel | refine Below.alloc ?_ ?_ _)) <;> first | omega | (simp; omega) | (simp; done)) (hb2.mono (by have := hbel.size; first | omega | (simp; omega)))
      have HE2 := Lib.hid (show maxL p l = max (max acc pz) (maxL p (l.drop (k + 1))) by rw [HE1.out]; omega)
      clear cx0 cx1 cx2 cx3 cx4 cx5 cx6 cx7 hb2 HE1
      go_wp2
      all_goals
        go_roundw
        case rel => exact ⟨k + 1, max acc pz, hltx, by go_num, by congr 1; omega, HE2, hfin⟩
        case measure => simp [intOf]; omega
    · have e1 : decide ((k : Int) < (l.length : Int)) = false := decide_eq_false (by omega)
      go_wp2
      go_ret
      exact ⟨ret_i (by rw [HE.out, maxL_end p l k (by omega)]; omega), hbel⟩

set_option maxHeartbeats 2000000 in
theorem deepest_SArm (l : List SArm) (v : Value) (g : FuncId) (caps : Array Value) (p : SArm → Nat) (w : World) (hn : l.length ≤ 1048576) (hin : Enters Tryz.prog g) (hr : Rd w w.heap.size v (.list 15 l.length (l.flatMap SArm.d)))
    (hp : ∀ (i : Nat) (h : i < l.length) (W : World) (us : List Value), Below w.heap.size w W → Rds w w.heap.size us (l[i]'h).d → Calls Tryz.prog g (#[.agg us.toArray] ++ caps) W fun e w' => e = .returned (.int .i64 (p (l[i]'h))) ∧ Below W.heap.size W w') :
    Calls Tryz.prog 87 #[v, .func (.func g) #[] caps] w fun e w' => e = .returned (.int .i64 (maxL p l)) ∧ Below w.heap.size w w' := by
  obtain ⟨a, cap, rfl⟩ := hr.slice_inv
  have HP := Lib.hid hp
  clear hp
  unfold Enters at hin
  go_enter Tryz.func87, Tryz.ntmps87
  go_wp2
  go_loopw [5, 10] (fun u5 u wr => ∃ k acc : Nat, k ≤ l.length ∧ u = .int .i64 k ∧ u5 = .int .i64 acc ∧ Hid (maxL p l = max acc (maxL p (l.drop k))) ∧ Below w.heap.size w wr) (fun _ u _ => l.length - (intOf u).toNat)
  case atStart => exact ⟨0, 0, Nat.zero_le _, rfl, rfl, Lib.hid (by simp), Below.refl _ _⟩
  case round =>
    obtain ⟨k, acc, hk, rfl, rfl, HE, hbel⟩ := hrel
    have hsz0 := hbel.size
    by_cases hltx : k < l.length
    · obtain ⟨blx, offx, cpx, usx, hvx, hbx, hcx, hcellx, hux⟩ := hr.elem SArm.d_len rfl k hltx (by omega)
      injection hvx with hax hnx hcapx
      subst hax hcapx
      have HC := Lib.hid (fun (W : World) (hW : Below w.heap.size w W) => HP.out k hltx W usx hW hux)
      have HE1 := Lib.hid (HE.out.trans (by rw [maxL_drop p l k hltx]))
      obtain ⟨pz, hpz⟩ : ∃ z, p l[k] = z := ⟨_, rfl⟩
      rw [hpz] at HC HE1
      obtain ⟨upx, uex, rfl, hpx, hex⟩ := SArm.cells hux
      obtain ⟨v6px, rfl, g6px, -⟩ := SPat.cells hpx
      obtain ⟨a6px, d6px, rfl⟩ := g6px.slice_inv
      obtain ⟨v6ex, v7ex, rfl, g6ex, g7ex, -⟩ := SExpr.cells hex
      obtain ⟨a6ex, d6ex, rfl⟩ := g6ex.slice_inv
      obtain ⟨a7ex, d7ex, rfl⟩ := g7ex.slice_inv
      have cx0 := (hbel.cell (p := ⟨blx, offx + k * 15, none⟩) hbx).trans (hcellx 0 _ rfl)
      have cx1 := (hbel.cell (p := ⟨blx, offx + k * 15 + 1, none⟩) hbx).trans (hcellx 1 _ rfl)
      have cx2 := (hbel.cell (p := ⟨blx, offx + k * 15 + 2, none⟩) hbx).trans (hcellx 2 _ rfl)
      have cx3 := (hbel.cell (p := ⟨blx, offx + k * 15 + 3, none⟩) hbx).trans (hcellx 3 _ rfl)
      have cx4 := (hbel.cell (p := ⟨blx, offx + k * 15 + 4, none⟩) hbx).trans (hcellx 4 _ rfl)
      have cx5 := (hbel.cell (p := ⟨blx, offx + k * 15 + 5, none⟩) hbx).trans (hcellx 5 _ rfl)
      have cx6 := (hbel.cell (p := ⟨blx, offx + k * 15 + 6, none⟩) hbx).trans (hcellx 6 _ rfl)
      have cx7 := (hbel.cell (p := ⟨blx, offx + k * 15 + 7, none⟩) hbx).trans (hcellx 7 _ rfl)
      have cx8 := (hbel.cell (p := ⟨blx, offx + k * 15 + 8, none⟩) hbx).trans (hcellx 8 _ rfl)
      have cx9 := (hbel.cell (p := ⟨blx, offx + k * 15 + 9, none⟩) hbx).trans (hcellx 9 _ rfl)
      have cx10 := (hbel.cell (p := ⟨blx, offx + k * 15 + 10, none⟩) hbx).trans (hcellx 10 _ rfl)
      have cx11 := (hbel.cell (p := ⟨blx, offx + k * 15 + 11, none⟩) hbx).trans (hcellx 11 _ rfl)
      have cx12 := (hbel.cell (p := ⟨blx, offx + k * 15 + 12, none⟩) hbx).trans (hcellx 12 _ rfl)
      have cx13 := (hbel.cell (p := ⟨blx, offx + k * 15 + 13, none⟩) hbx).trans (hcellx 13 _ rfl)
      have cx14 := (hbel.cell (p := ⟨blx, offx + k * 15 + 14, none⟩) hbx).trans (hcellx 14 _ rfl)
      clear hcellx hux hpz HE g6px g6ex g7ex hpx hex
      go_wp2_with fail
      refine (HC.out _ (by (repeat (with_reducible first | exact hbel | refine Below.alloc ?_ ?_ _)) <;> first | omega | (simp; omega) | (simp; done))).mono ?_
      rintro e w2 ⟨rfl, hb2⟩
      have hfin : Below w.heap.size w w2 := Below.trans (by (repeat (with_reducible first | exact hbel | refine Below.alloc ?_ ?_ _)) <;> first | omega | (simp; omega) | (simp; done)) (hb2.mono (by have := hbel.size; first | omega | (simp; omega)))
      have HE2 := Lib.hid (show maxL p l = max (max acc pz) (maxL p (l.drop (k + 1))) by rw [HE1.out]; omega)
      clear cx0 cx1 cx2 cx3 cx4 cx5 cx6 cx7 cx8 cx9 cx10 cx11 cx12 cx13 cx14 hb2 HE1
      go_wp2
      all_goals
        go_roundw
        case rel => exact ⟨k + 1, max acc pz, hltx, by go_num, by congr 1; omega, HE2, hfin⟩
        case measure => simp [intOf]; omega
    · have e1 : decide ((k : Int) < (l.length : Int)) = false := decide_eq_false (by omega)
      go_wp2
      go_ret
      exact ⟨ret_i (by rw [HE.out, maxL_end p l k (by omega)]; omega), hbel⟩

set_option maxHeartbeats 2000000 in
theorem deepest_SPat (l : List SPat) (v : Value) (g : FuncId) (caps : Array Value) (p : SPat → Nat) (w : World) (hn : l.length ≤ 1048576) (hin : Enters Tryz.prog g) (hr : Rd w w.heap.size v (.list 7 l.length (l.flatMap SPat.d)))
    (hp : ∀ (i : Nat) (h : i < l.length) (W : World) (us : List Value), Below w.heap.size w W → Rds w w.heap.size us (l[i]'h).d → Calls Tryz.prog g (#[.agg us.toArray] ++ caps) W fun e w' => e = .returned (.int .i64 (p (l[i]'h))) ∧ Below W.heap.size W w') :
    Calls Tryz.prog 141 #[v, .func (.func g) #[] caps] w fun e w' => e = .returned (.int .i64 (maxL p l)) ∧ Below w.heap.size w w' := by
  obtain ⟨a, cap, rfl⟩ := hr.slice_inv
  have HP := Lib.hid hp
  clear hp
  unfold Enters at hin
  go_enter Tryz.func141, Tryz.ntmps141
  go_wp2
  go_loopw [5, 10] (fun u5 u wr => ∃ k acc : Nat, k ≤ l.length ∧ u = .int .i64 k ∧ u5 = .int .i64 acc ∧ Hid (maxL p l = max acc (maxL p (l.drop k))) ∧ Below w.heap.size w wr) (fun _ u _ => l.length - (intOf u).toNat)
  case atStart => exact ⟨0, 0, Nat.zero_le _, rfl, rfl, Lib.hid (by simp), Below.refl _ _⟩
  case round =>
    obtain ⟨k, acc, hk, rfl, rfl, HE, hbel⟩ := hrel
    have hsz0 := hbel.size
    by_cases hltx : k < l.length
    · obtain ⟨blx, offx, cpx, usx, hvx, hbx, hcx, hcellx, hux⟩ := hr.elem SPat.d_len rfl k hltx (by omega)
      injection hvx with hax hnx hcapx
      subst hax hcapx
      have HC := Lib.hid (fun (W : World) (hW : Below w.heap.size w W) => HP.out k hltx W usx hW hux)
      have HE1 := Lib.hid (HE.out.trans (by rw [maxL_drop p l k hltx]))
      obtain ⟨pz, hpz⟩ : ∃ z, p l[k] = z := ⟨_, rfl⟩
      rw [hpz] at HC HE1
      obtain ⟨v6x, rfl, g6x, -⟩ := SPat.cells hux
      obtain ⟨a6x, d6x, rfl⟩ := g6x.slice_inv
      have cx0 := (hbel.cell (p := ⟨blx, offx + k * 7, none⟩) hbx).trans (hcellx 0 _ rfl)
      have cx1 := (hbel.cell (p := ⟨blx, offx + k * 7 + 1, none⟩) hbx).trans (hcellx 1 _ rfl)
      have cx2 := (hbel.cell (p := ⟨blx, offx + k * 7 + 2, none⟩) hbx).trans (hcellx 2 _ rfl)
      have cx3 := (hbel.cell (p := ⟨blx, offx + k * 7 + 3, none⟩) hbx).trans (hcellx 3 _ rfl)
      have cx4 := (hbel.cell (p := ⟨blx, offx + k * 7 + 4, none⟩) hbx).trans (hcellx 4 _ rfl)
      have cx5 := (hbel.cell (p := ⟨blx, offx + k * 7 + 5, none⟩) hbx).trans (hcellx 5 _ rfl)
      have cx6 := (hbel.cell (p := ⟨blx, offx + k * 7 + 6, none⟩) hbx).trans (hcellx 6 _ rfl)
      clear hcellx hux hpz HE g6x
      go_wp2_with fail
      refine (HC.out _ (by (repeat (with_reducible first | exact hbel | refine Below.alloc ?_ ?_ _)) <;> first | omega | (simp; omega) | (simp; done))).mono ?_
      rintro e w2 ⟨rfl, hb2⟩
      have hfin : Below w.heap.size w w2 := Below.trans (by (repeat (with_reducible first | exact hbel | refine Below.alloc ?_ ?_ _)) <;> first | omega | (simp; omega) | (simp; done)) (hb2.mono (by have := hbel.size; first | omega | (simp; omega)))
      have HE2 := Lib.hid (show maxL p l = max (max acc pz) (maxL p (l.drop (k + 1))) by rw [HE1.out]; omega)
      clear cx0 cx1 cx2 cx3 cx4 cx5 cx6 hb2 HE1
      go_wp2
      all_goals
        go_roundw
        case rel => exact ⟨k + 1, max acc pz, hltx, by go_num, by congr 1; omega, HE2, hfin⟩
        case measure => simp [intOf]; omega
    · have e1 : decide ((k : Int) < (l.length : Int)) = false := decide_eq_false (by omega)
      go_wp2
      go_ret
      exact ⟨ret_i (by rw [HE.out, maxL_end p l k (by omega)]; omega), hbel⟩

set_option maxHeartbeats 2000000 in
theorem deepest_STy (l : List STy) (v : Value) (g : FuncId) (caps : Array Value) (p : STy → Nat) (w : World) (hn : l.length ≤ 1048576) (hin : Enters Tryz.prog g) (hr : Rd w w.heap.size v (.list 7 l.length (l.flatMap STy.d)))
    (hp : ∀ (i : Nat) (h : i < l.length) (W : World) (us : List Value), Below w.heap.size w W → Rds w w.heap.size us (l[i]'h).d → Calls Tryz.prog g (#[.agg us.toArray] ++ caps) W fun e w' => e = .returned (.int .i64 (p (l[i]'h))) ∧ Below W.heap.size W w') :
    Calls Tryz.prog 109 #[v, .func (.func g) #[] caps] w fun e w' => e = .returned (.int .i64 (maxL p l)) ∧ Below w.heap.size w w' := by
  obtain ⟨a, cap, rfl⟩ := hr.slice_inv
  have HP := Lib.hid hp
  clear hp
  unfold Enters at hin
  go_enter Tryz.func109, Tryz.ntmps109
  go_wp2
  go_loopw [5, 10] (fun u5 u wr => ∃ k acc : Nat, k ≤ l.length ∧ u = .int .i64 k ∧ u5 = .int .i64 acc ∧ Hid (maxL p l = max acc (maxL p (l.drop k))) ∧ Below w.heap.size w wr) (fun _ u _ => l.length - (intOf u).toNat)
  case atStart => exact ⟨0, 0, Nat.zero_le _, rfl, rfl, Lib.hid (by simp), Below.refl _ _⟩
  case round =>
    obtain ⟨k, acc, hk, rfl, rfl, HE, hbel⟩ := hrel
    have hsz0 := hbel.size
    by_cases hltx : k < l.length
    · obtain ⟨blx, offx, cpx, usx, hvx, hbx, hcx, hcellx, hux⟩ := hr.elem STy.d_len rfl k hltx (by omega)
      injection hvx with hax hnx hcapx
      subst hax hcapx
      have HC := Lib.hid (fun (W : World) (hW : Below w.heap.size w W) => HP.out k hltx W usx hW hux)
      have HE1 := Lib.hid (HE.out.trans (by rw [maxL_drop p l k hltx]))
      obtain ⟨pz, hpz⟩ : ∃ z, p l[k] = z := ⟨_, rfl⟩
      rw [hpz] at HC HE1
      obtain ⟨v6x, rfl, g6x, -⟩ := STy.cells hux
      obtain ⟨a6x, d6x, rfl⟩ := g6x.slice_inv
      have cx0 := (hbel.cell (p := ⟨blx, offx + k * 7, none⟩) hbx).trans (hcellx 0 _ rfl)
      have cx1 := (hbel.cell (p := ⟨blx, offx + k * 7 + 1, none⟩) hbx).trans (hcellx 1 _ rfl)
      have cx2 := (hbel.cell (p := ⟨blx, offx + k * 7 + 2, none⟩) hbx).trans (hcellx 2 _ rfl)
      have cx3 := (hbel.cell (p := ⟨blx, offx + k * 7 + 3, none⟩) hbx).trans (hcellx 3 _ rfl)
      have cx4 := (hbel.cell (p := ⟨blx, offx + k * 7 + 4, none⟩) hbx).trans (hcellx 4 _ rfl)
      have cx5 := (hbel.cell (p := ⟨blx, offx + k * 7 + 5, none⟩) hbx).trans (hcellx 5 _ rfl)
      have cx6 := (hbel.cell (p := ⟨blx, offx + k * 7 + 6, none⟩) hbx).trans (hcellx 6 _ rfl)
      clear hcellx hux hpz HE g6x
      go_wp2_with fail
      refine (HC.out _ (by (repeat (with_reducible first | exact hbel | refine Below.alloc ?_ ?_ _)) <;> first | omega | (simp; omega) | (simp; done))).mono ?_
      rintro e w2 ⟨rfl, hb2⟩
      have hfin : Below w.heap.size w w2 := Below.trans (by (repeat (with_reducible first | exact hbel | refine Below.alloc ?_ ?_ _)) <;> first | omega | (simp; omega) | (simp; done)) (hb2.mono (by have := hbel.size; first | omega | (simp; omega)))
      have HE2 := Lib.hid (show maxL p l = max (max acc pz) (maxL p (l.drop (k + 1))) by rw [HE1.out]; omega)
      clear cx0 cx1 cx2 cx3 cx4 cx5 cx6 hb2 HE1
      go_wp2
      all_goals
        go_roundw
        case rel => exact ⟨k + 1, max acc pz, hltx, by go_num, by congr 1; omega, HE2, hfin⟩
        case measure => simp [intOf]; omega
    · have e1 : decide ((k : Int) < (l.length : Int)) = false := decide_eq_false (by omega)
      go_wp2
      go_ret
      exact ⟨ret_i (by rw [HE.out, maxL_end p l k (by omega)]; omega), hbel⟩

set_option maxHeartbeats 2000000 in
theorem deepest_SConD (l : List SConD) (v : Value) (g : FuncId) (caps : Array Value) (p : SConD → Nat) (w : World) (hn : l.length ≤ 1048576) (hin : Enters Tryz.prog g) (hr : Rd w w.heap.size v (.list 5 l.length (l.flatMap SConD.d)))
    (hp : ∀ (i : Nat) (h : i < l.length) (W : World) (us : List Value), Below w.heap.size w W → Rds w w.heap.size us (l[i]'h).d → Calls Tryz.prog g (#[.agg us.toArray] ++ caps) W fun e w' => e = .returned (.int .i64 (p (l[i]'h))) ∧ Below W.heap.size W w') :
    Calls Tryz.prog 38 #[v, .func (.func g) #[] caps] w fun e w' => e = .returned (.int .i64 (maxL p l)) ∧ Below w.heap.size w w' := by
  obtain ⟨a, cap, rfl⟩ := hr.slice_inv
  have HP := Lib.hid hp
  clear hp
  unfold Enters at hin
  go_enter Tryz.func38, Tryz.ntmps38
  go_wp2
  go_loopw [5, 10] (fun u5 u wr => ∃ k acc : Nat, k ≤ l.length ∧ u = .int .i64 k ∧ u5 = .int .i64 acc ∧ Hid (maxL p l = max acc (maxL p (l.drop k))) ∧ Below w.heap.size w wr) (fun _ u _ => l.length - (intOf u).toNat)
  case atStart => exact ⟨0, 0, Nat.zero_le _, rfl, rfl, Lib.hid (by simp), Below.refl _ _⟩
  case round =>
    obtain ⟨k, acc, hk, rfl, rfl, HE, hbel⟩ := hrel
    have hsz0 := hbel.size
    by_cases hltx : k < l.length
    · obtain ⟨blx, offx, cpx, usx, hvx, hbx, hcx, hcellx, hux⟩ := hr.elem SConD.d_len rfl k hltx (by omega)
      injection hvx with hax hnx hcapx
      subst hax hcapx
      have HC := Lib.hid (fun (W : World) (hW : Below w.heap.size w W) => HP.out k hltx W usx hW hux)
      have HE1 := Lib.hid (HE.out.trans (by rw [maxL_drop p l k hltx]))
      obtain ⟨pz, hpz⟩ : ∃ z, p l[k] = z := ⟨_, rfl⟩
      rw [hpz] at HC HE1
      obtain ⟨v6x, rfl, g6x, -⟩ := SConD.cells hux
      obtain ⟨a6x, d6x, rfl⟩ := g6x.slice_inv
      have cx0 := (hbel.cell (p := ⟨blx, offx + k * 5, none⟩) hbx).trans (hcellx 0 _ rfl)
      have cx1 := (hbel.cell (p := ⟨blx, offx + k * 5 + 1, none⟩) hbx).trans (hcellx 1 _ rfl)
      have cx2 := (hbel.cell (p := ⟨blx, offx + k * 5 + 2, none⟩) hbx).trans (hcellx 2 _ rfl)
      have cx3 := (hbel.cell (p := ⟨blx, offx + k * 5 + 3, none⟩) hbx).trans (hcellx 3 _ rfl)
      have cx4 := (hbel.cell (p := ⟨blx, offx + k * 5 + 4, none⟩) hbx).trans (hcellx 4 _ rfl)
      clear hcellx hux hpz HE g6x
      go_wp2_with fail
      refine (HC.out _ (by (repeat (with_reducible first | exact hbel | refine Below.alloc ?_ ?_ _)) <;> first | omega | (simp; omega) | (simp; done))).mono ?_
      rintro e w2 ⟨rfl, hb2⟩
      have hfin : Below w.heap.size w w2 := Below.trans (by (repeat (with_reducible first | exact hbel | refine Below.alloc ?_ ?_ _)) <;> first | omega | (simp; omega) | (simp; done)) (hb2.mono (by have := hbel.size; first | omega | (simp; omega)))
      have HE2 := Lib.hid (show maxL p l = max (max acc pz) (maxL p (l.drop (k + 1))) by rw [HE1.out]; omega)
      clear cx0 cx1 cx2 cx3 cx4 hb2 HE1
      go_wp2
      all_goals
        go_roundw
        case rel => exact ⟨k + 1, max acc pz, hltx, by go_num, by congr 1; omega, HE2, hfin⟩
        case measure => simp [intOf]; omega
    · have e1 : decide ((k : Int) < (l.length : Int)) = false := decide_eq_false (by omega)
      go_wp2
      go_ret
      exact ⟨ret_i (by rw [HE.out, maxL_end p l k (by omega)]; omega), hbel⟩

set_option maxHeartbeats 2000000 in
theorem deepest_SField (l : List SField) (v : Value) (g : FuncId) (caps : Array Value) (p : SField → Nat) (w : World) (hn : l.length ≤ 1048576) (hin : Enters Tryz.prog g) (hr : Rd w w.heap.size v (.list 8 l.length (l.flatMap SField.d)))
    (hp : ∀ (i : Nat) (h : i < l.length) (W : World) (us : List Value), Below w.heap.size w W → Rds w w.heap.size us (l[i]'h).d → Calls Tryz.prog g (#[.agg us.toArray] ++ caps) W fun e w' => e = .returned (.int .i64 (p (l[i]'h))) ∧ Below W.heap.size W w') :
    Calls Tryz.prog 40 #[v, .func (.func g) #[] caps] w fun e w' => e = .returned (.int .i64 (maxL p l)) ∧ Below w.heap.size w w' := by
  obtain ⟨a, cap, rfl⟩ := hr.slice_inv
  have HP := Lib.hid hp
  clear hp
  unfold Enters at hin
  go_enter Tryz.func40, Tryz.ntmps40
  go_wp2
  go_loopw [5, 10] (fun u5 u wr => ∃ k acc : Nat, k ≤ l.length ∧ u = .int .i64 k ∧ u5 = .int .i64 acc ∧ Hid (maxL p l = max acc (maxL p (l.drop k))) ∧ Below w.heap.size w wr) (fun _ u _ => l.length - (intOf u).toNat)
  case atStart => exact ⟨0, 0, Nat.zero_le _, rfl, rfl, Lib.hid (by simp), Below.refl _ _⟩
  case round =>
    obtain ⟨k, acc, hk, rfl, rfl, HE, hbel⟩ := hrel
    have hsz0 := hbel.size
    by_cases hltx : k < l.length
    · obtain ⟨blx, offx, cpx, usx, hvx, hbx, hcx, hcellx, hux⟩ := hr.elem SField.d_len rfl k hltx (by omega)
      injection hvx with hax hnx hcapx
      subst hax hcapx
      have HC := Lib.hid (fun (W : World) (hW : Below w.heap.size w W) => HP.out k hltx W usx hW hux)
      have HE1 := Lib.hid (HE.out.trans (by rw [maxL_drop p l k hltx]))
      obtain ⟨pz, hpz⟩ : ∃ z, p l[k] = z := ⟨_, rfl⟩
      rw [hpz] at HC HE1
      obtain ⟨utx, rfl, htx, -⟩ := SField.cells hux
      obtain ⟨v6tx, rfl, g6tx, -⟩ := STy.cells htx
      obtain ⟨a6tx, d6tx, rfl⟩ := g6tx.slice_inv
      have cx0 := (hbel.cell (p := ⟨blx, offx + k * 8, none⟩) hbx).trans (hcellx 0 _ rfl)
      have cx1 := (hbel.cell (p := ⟨blx, offx + k * 8 + 1, none⟩) hbx).trans (hcellx 1 _ rfl)
      have cx2 := (hbel.cell (p := ⟨blx, offx + k * 8 + 2, none⟩) hbx).trans (hcellx 2 _ rfl)
      have cx3 := (hbel.cell (p := ⟨blx, offx + k * 8 + 3, none⟩) hbx).trans (hcellx 3 _ rfl)
      have cx4 := (hbel.cell (p := ⟨blx, offx + k * 8 + 4, none⟩) hbx).trans (hcellx 4 _ rfl)
      have cx5 := (hbel.cell (p := ⟨blx, offx + k * 8 + 5, none⟩) hbx).trans (hcellx 5 _ rfl)
      have cx6 := (hbel.cell (p := ⟨blx, offx + k * 8 + 6, none⟩) hbx).trans (hcellx 6 _ rfl)
      have cx7 := (hbel.cell (p := ⟨blx, offx + k * 8 + 7, none⟩) hbx).trans (hcellx 7 _ rfl)
      clear hcellx hux hpz HE g6tx htx
      go_wp2_with fail
      refine (HC.out _ (by (repeat (with_reducible first | exact hbel | refine Below.alloc ?_ ?_ _)) <;> first | omega | (simp; omega) | (simp; done))).mono ?_
      rintro e w2 ⟨rfl, hb2⟩
      have hfin : Below w.heap.size w w2 := Below.trans (by (repeat (with_reducible first | exact hbel | refine Below.alloc ?_ ?_ _)) <;> first | omega | (simp; omega) | (simp; done)) (hb2.mono (by have := hbel.size; first | omega | (simp; omega)))
      have HE2 := Lib.hid (show maxL p l = max (max acc pz) (maxL p (l.drop (k + 1))) by rw [HE1.out]; omega)
      clear cx0 cx1 cx2 cx3 cx4 cx5 cx6 cx7 hb2 HE1
      go_wp2
      all_goals
        go_roundw
        case rel => exact ⟨k + 1, max acc pz, hltx, by go_num, by congr 1; omega, HE2, hfin⟩
        case measure => simp [intOf]; omega
    · have e1 : decide ((k : Int) < (l.length : Int)) = false := decide_eq_false (by omega)
      go_wp2
      go_ret
      exact ⟨ret_i (by rw [HE.out, maxL_end p l k (by omega)]; omega), hbel⟩

end Go.Proofs.YtnneooidkbhbeaaGreatDoor
