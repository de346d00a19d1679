/- Contracts: slices.EqualFunc over types, for any closure given by its contract. Written by gen_eqt.py. -/
import Derived.Test.YtpndkjjkdeingaaGreatDoorTyC
import Derived.Test.YtpndkjjkdeingaaGreatDoorIdx
import Derived.Deep.Light
set_option linter.unusedVariables false
set_option linter.unusedSimpArgs false
namespace Go.Proofs.YtpndkjjkdeingaaGreatDoor
open Go.RowKit

def eqL {α : Type} (p : α → α → Bool) : List α → List α → Bool
  | [], [] => true
  | x :: r, y :: s => p x y && eqL p r s
  | _, _ => false
theorem eqL_len {α : Type} (p : α → α → Bool) : ∀ (l m : List α), l.length ≠ m.length → eqL p l m = false
  | [], [], h => absurd rfl h
  | [], _ :: _, _ => rfl
  | _ :: _, [], _ => rfl
  | x :: r, y :: s, h => by
    simp only [eqL]
    rw [eqL_len p r s (fun e => h (by simp [e]))]; simp
theorem eqL_drop {α : Type} (p : α → α → Bool) (l m : List α) (k : Nat) (h : k < l.length) (h2 : k < m.length) : eqL p (l.drop k) (m.drop k) = (p l[k] m[k] && eqL p (l.drop (k + 1)) (m.drop (k + 1))) := by
  rw [List.drop_eq_getElem_cons h, List.drop_eq_getElem_cons h2, eqL]
theorem eqL_end {α : Type} (p : α → α → Bool) (l m : List α) (k : Nat) (h : l.length ≤ k) (h2 : m.length ≤ k) : eqL p (l.drop k) (m.drop k) = true := by
  rw [List.drop_of_length_le h, List.drop_of_length_le h2]; rfl
/-- the greatest one -/
def maxL {α : Type} (p : α → Nat) : List α → Nat
  | [] => 0
  | x :: r => max (p x) (maxL p r)
theorem maxL_drop {α : Type} (p : α → Nat) (l : List α) (k : Nat) (h : k < l.length) : maxL p (l.drop k) = max (p l[k]) (maxL p (l.drop (k + 1))) := by
  rw [List.drop_eq_getElem_cons h, maxL]
theorem maxL_end {α : Type} (p : α → Nat) (l : List α) (k : Nat) (h : l.length ≤ k) : maxL p (l.drop k) = 0 := by
  rw [List.drop_of_length_le h]; rfl

set_option maxHeartbeats 2000000 in
theorem eqf_Ty (l m : List Ty) (v u : Value) (g : FuncId) (caps : Array Value) (p : Ty → Ty → Bool) (w : World) (hn : l.length ≤ 1048576) (hin : Enters Tryz.prog g) (hr : Rd w w.heap.size v (.list 5 l.length (l.flatMap Ty.d))) (hr2 : Rd w w.heap.size u (.list 5 m.length (m.flatMap Ty.d)))
    (hp : ∀ (i : Nat) (h : i < l.length) (h2 : i < m.length) (W : World) (us vs : List Value), Below w.heap.size w W → Rds w w.heap.size us (l[i]'h).d → Rds w w.heap.size vs (m[i]'h2).d → Calls Tryz.prog g (#[.agg us.toArray, .agg vs.toArray] ++ caps) W fun e w' => e = .returned (.bool (p (l[i]'h) (m[i]'h2))) ∧ Below W.heap.size W w') :
    Calls Tryz.prog 15 #[v, u, .func (.func g) #[] caps] w fun e w' => e = .returned (.bool (eqL p l m)) ∧ Below w.heap.size w w' := by
  obtain ⟨a, cap, rfl⟩ := hr.slice_inv
  obtain ⟨a', cap', rfl⟩ := hr2.slice_inv
  have HP := Lib.hid hp
  clear hp
  unfold Enters at hin
  by_cases hlen : l.length = m.length
  · have t0 : ((l.length : Int) != (m.length : Int)) = false := by simp [hlen]
    have HLEN := Lib.hid hlen
    clear hlen
    go_enter Tryz.func15, Tryz.ntmps15
    go_wp2
    go_loopw [17] (fun u wr => ∃ k : Nat, k ≤ l.length ∧ u = .int .i64 k ∧ Hid (eqL p l m = eqL p (l.drop k) (m.drop k)) ∧ Below w.heap.size w wr) (fun u _ => l.length - (intOf u).toNat)
    case atStart => exact ⟨0, Nat.zero_le _, rfl, rfl, Below.refl _ _⟩
    case round =>
      obtain ⟨k, hk, rfl, HE, hbel⟩ := hrel
      have hsz0 := hbel.size
      by_cases hltx : k < l.length
      · have hlty : k < m.length := by have := HLEN.out; omega
        obtain ⟨blx, offx, cpx, usx, hvx, hbx, hcx, hcellx, hux⟩ := hr.elem Ty.d_len rfl k hltx (by omega)
        injection hvx with hax hnx hcapx
        subst hax hcapx
        obtain ⟨bly, offy, cpy, usy, hvy, hby, hcy, hcelly, huy⟩ := hr2.elem Ty.d_len rfl k hlty (by omega)
        injection hvy with hay hny hcapy
        subst hay hcapy
        have HC := Lib.hid (fun (W : World) (hW : Below w.heap.size w W) => HP.out k hltx hlty W usx usy hW hux huy)
        obtain ⟨v4x, rfl, g4x, -⟩ := Ty.cells hux
        obtain ⟨a4x, d4x, rfl⟩ := g4x.slice_inv
        obtain ⟨v4y, rfl, g4y, -⟩ := Ty.cells huy
        obtain ⟨a4y, d4y, rfl⟩ := g4y.slice_inv
        have cx0 := (hbel.cell (p := ⟨blx, offx + k * 5, none⟩) hbx).trans (hcellx 0 _ rfl)
        have cx1 := (hbel.cell (p := ⟨blx, offx + k * 5 + 1, none⟩) hbx).trans (hcellx 1 _ rfl)
        have cx2 := (hbel.cell (p := ⟨blx, offx + k * 5 + 2, none⟩) hbx).trans (hcellx 2 _ rfl)
        have cx3 := (hbel.cell (p := ⟨blx, offx + k * 5 + 3, none⟩) hbx).trans (hcellx 3 _ rfl)
        have cx4 := (hbel.cell (p := ⟨blx, offx + k * 5 + 4, none⟩) hbx).trans (hcellx 4 _ rfl)
        have cy0 := (hbel.cell (p := ⟨bly, offy + k * 5, none⟩) hby).trans (hcelly 0 _ rfl)
        have cy1 := (hbel.cell (p := ⟨bly, offy + k * 5 + 1, none⟩) hby).trans (hcelly 1 _ rfl)
        have cy2 := (hbel.cell (p := ⟨bly, offy + k * 5 + 2, none⟩) hby).trans (hcelly 2 _ rfl)
        have cy3 := (hbel.cell (p := ⟨bly, offy + k * 5 + 3, none⟩) hby).trans (hcelly 3 _ rfl)
        have cy4 := (hbel.cell (p := ⟨bly, offy + k * 5 + 4, none⟩) hby).trans (hcelly 4 _ rfl)
        clear hcellx hcelly hux huy g4x g4y
        have hly : bly < wr.heap.size := by omega
        have ky : (k : Int) < (m.length : Int) := by omega
        have k0 : (0 : Int) ≤ (k : Int) := by omega

        go_wp2_with fail
        refine (HC.out _ (by first | exact hbel | (repeat (with_reducible first | exact hbel | refine Below.alloc ?_ ?_ _)) <;> first | omega | (simp; omega) | (simp; done))).mono ?_
        rintro e w2 ⟨rfl, hb2⟩
        have hs2 := hb2.size
        have hfin : Below w.heap.size w w2 := Below.trans (by first | exact hbel | (repeat (with_reducible first | exact hbel | refine Below.alloc ?_ ?_ _)) <;> first | omega | (simp; omega) | (simp; done)) (hb2.mono (by have := hbel.size; first | omega | (simp; omega)))
        clear cx0 cy0 cx1 cy1 cx2 cy2 cx3 cy3 cx4 cy4 hb2
        by_cases hpk : p l[k] m[k] = true
        · have HE2 := Lib.hid (show eqL p l m = eqL p (l.drop (k + 1)) (m.drop (k + 1)) by rw [HE.out, eqL_drop p l m k hltx hlty, hpk]; rfl)
          rw [hpk]
          clear hpk
          go_wp2
          go_roundw
          case rel => exact ⟨k + 1, hltx, by go_num, HE2, hfin⟩
          case measure => simp [intOf]; omega
        · have hpk' : p l[k] m[k] = false := by simpa using hpk
          have HE2 := Lib.hid (show eqL p l m = false by rw [HE.out, eqL_drop p l m k hltx hlty, hpk']; rfl)
          rw [hpk']
          clear hpk hpk'
          go_wp2
          go_ret
          exact ⟨ret_b HE2.out.symm, hfin⟩
      · have e1 : decide ((k : Int) < (l.length : Int)) = false := decide_eq_false (by omega)
        go_wp2
        go_ret
        exact ⟨ret_b (by rw [HE.out, eqL_end p l m k (by omega) (by have := HLEN.out; omega)]), hbel⟩
  · have t0 : ((l.length : Int) != (m.length : Int)) = true := by simp; omega
    have HE2 := Lib.hid (eqL_len p l m hlen)
    go_enter Tryz.func15, Tryz.ntmps15
    go_wp2
    go_ret
    exact ⟨ret_b HE2.out.symm, Below.refl _ _⟩

end Go.Proofs.YtpndkjjkdeingaaGreatDoor
