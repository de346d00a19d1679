/- Contracts: slices.IndexFunc, slices.ContainsFunc. Written by gen_idx.py. -/
import Derived.Test.YtpndkjjkdeingaaGreatDoorApi
import Derived.Test.YtpndkjjkdeingaaGreatDoorChecked
import Derived.Deep.Light
set_option linter.unusedVariables false
set_option linter.unusedSimpArgs false
namespace Go.Proofs.YtpndkjjkdeingaaGreatDoor
open Go.RowKit

theorem ret_i {a b : Int} (h : a = b) : Ending.returned (.int .i64 a) = .returned (.int .i64 b) := by rw [h]
theorem ret_b {a b : Bool} (h : a = b) : Ending.returned (.bool a) = .returned (.bool b) := by rw [h]
def idxZ {α : Type} (p : α → Bool) : List α → Int → Int
  | [], _ => -1
  | x :: r, k => if p x then k else idxZ p r (k + 1)
theorem idxZ_drop {α : Type} (p : α → Bool) (l : List α) (k : Nat) (h : k < l.length) : idxZ p (l.drop k) k = if p l[k] then (k : Int) else idxZ p (l.drop (k + 1)) ((k + 1 : Nat) : Int) := by
  rw [List.drop_eq_getElem_cons h]
  simp [idxZ]
theorem idxZ_end {α : Type} (p : α → Bool) (l : List α) (k : Nat) (h : l.length ≤ k) : idxZ p (l.drop k) k = -1 := by
  rw [List.drop_of_length_le h]; rfl
theorem idxZ_ge {α : Type} (p : α → Bool) : ∀ (l : List α) (k : Int), 0 ≤ k → (decide (0 ≤ idxZ p l k) = l.any p)
  | [], k, h => by simp [idxZ]
  | x :: r, k, h => by
    unfold idxZ
    by_cases hx : p x = true
    · simp [hx, h]
    · simp only [hx, Bool.false_eq_true, if_false, List.any_cons, Bool.false_or]
      exact idxZ_ge p r (k + 1) (by omega)
/-- a call of this function enters it -/
def Enters (P : Program) (g : FuncId) : Prop := ∀ (args : Array Value) (w : World), Sem.run P (callFunc g args) w = .ok (.enter g args) w
theorem enters {P : Program} {f : FuncId} {fn : Func} {c : Code} (hf : P.funcs[f]? = some fn) (hname : (fn.name == "runtime.NumGoroutine") = false) (hb : fn.body = some c) : Enters P f := by
  intro args w
  have h1 : fn.name ≠ "runtime.NumGoroutine" := by simpa using hname
  simp [callFunc, hf, h1, hb]

set_option maxHeartbeats 1000000 in
theorem indexTy (l : List Ty) (v : Value) (g : FuncId) (caps : Array Value) (p : Ty → Bool) (w : World) (hn : l.length ≤ 1048576) (hin : Enters Tryz.prog g) (hr : Rd w w.heap.size v (.list 5 l.length (l.flatMap Ty.d)))
    (hp : ∀ (i : Nat) (h : i < l.length) (W : World) (us : List Value), Below w.heap.size w W → Rds w w.heap.size us (l[i]'h).d → Calls Tryz.prog g (#[.agg us.toArray] ++ caps) W fun e w' => e = .returned (.bool (p (l[i]'h))) ∧ Below W.heap.size W w') :
    Calls Tryz.prog 85 #[v, .func (.func g) #[] caps] w fun e w' => e = .returned (.int .i64 (idxZ p l 0)) ∧ Below w.heap.size w w' := by
  obtain ⟨a, cap, rfl⟩ := hr.slice_inv
  have HP := Lib.hid hp
  clear hp
  unfold Enters at hin
  go_enter Tryz.func85, Tryz.ntmps85
  go_wp2
  go_loopw [8] (fun u wr => ∃ k : Nat, k ≤ l.length ∧ u = .int .i64 k ∧ Hid (idxZ p l 0 = idxZ p (l.drop k) k) ∧ Below w.heap.size w wr) (fun u _ => l.length - (intOf u).toNat)
  case atStart => exact ⟨0, Nat.zero_le _, rfl, rfl, Below.refl _ _⟩
  case round =>
    obtain ⟨k, hk, rfl, HE, hbel⟩ := hrel
    by_cases hlt : k < l.length
    · obtain ⟨b, off, cap', us, hv, hb, hc, hcell, hus⟩ := hr.elem Ty.d_len rfl k hlt (by omega)
      injection hv with ha hn' hcap
      subst ha hcap
      obtain ⟨v4, rfl, k0, k1, k2, k3, k4⟩ := Ty.cells hus
      have c0 := (hbel.cell (p := ⟨b, off + k * 5, none⟩) hb).trans (hcell 0 _ rfl)
      have c1 := (hbel.cell (p := ⟨b, off + k * 5 + 1, none⟩) hb).trans (hcell 1 _ rfl)
      have c2 := (hbel.cell (p := ⟨b, off + k * 5 + 2, none⟩) hb).trans (hcell 2 _ rfl)
      have c3 := (hbel.cell (p := ⟨b, off + k * 5 + 3, none⟩) hb).trans (hcell 3 _ rfl)
      have c4 := (hbel.cell (p := ⟨b, off + k * 5 + 4, none⟩) hb).trans (hcell 4 _ rfl)
      clear hcell
      go_wp2_with fail
      refine (HP.out k hlt wr _ hbel hus).mono ?_
      rintro e w2 ⟨rfl, hb2⟩
      have hs2 := hb2.size
      by_cases hpk : p l[k] = true
      · rw [hpk]
        go_wp2
        go_ret
        refine ⟨ret_i ?_, hbel.trans (hb2.mono hbel.size)⟩
        rw [HE.out, idxZ_drop p l k hlt, if_pos hpk]
      · have hpk' : p l[k] = false := by simpa using hpk
        rw [hpk']
        go_wp2
        go_roundw
        case rel => exact ⟨k + 1, hlt, by go_num, by show _ = _; rw [HE.out, idxZ_drop p l k hlt, if_neg hpk], hbel.trans (hb2.mono hbel.size)⟩
        case measure => simp [intOf]; omega
    · go_wp2
      go_ret
      exact ⟨ret_i (by rw [HE.out, idxZ_end p l k (by omega)]), hbel⟩

theorem containsTy (l : List Ty) (v : Value) (g : FuncId) (caps : Array Value) (p : Ty → Bool) (w : World) (hn : l.length ≤ 1048576) (hin : Enters Tryz.prog g) (hr : Rd w w.heap.size v (.list 5 l.length (l.flatMap Ty.d)))
    (hp : ∀ (i : Nat) (h : i < l.length) (W : World) (us : List Value), Below w.heap.size w W → Rds w w.heap.size us (l[i]'h).d → Calls Tryz.prog g (#[.agg us.toArray] ++ caps) W fun e w' => e = .returned (.bool (p (l[i]'h))) ∧ Below W.heap.size W w') :
    Calls Tryz.prog 42 #[v, .func (.func g) #[] caps] w fun e w' => e = .returned (.bool (l.any p)) ∧ Below w.heap.size w w' := by
  obtain ⟨a, cap, rfl⟩ := hr.slice_inv
  have HC := Lib.hid (indexTy l _ g caps p w hn hin hr hp)
  have HG := Lib.hid (idxZ_ge p l 0 (by omega))
  obtain ⟨z, hz⟩ : ∃ z, idxZ p l 0 = z := ⟨_, rfl⟩
  rw [hz] at HC HG
  clear hp hin hz hr
  go_enter Tryz.func42, Tryz.ntmps42
  go_wp2_with fail
  refine HC.out.mono ?_
  rintro e w2 ⟨rfl, hb2⟩
  go_wp2
  go_ret
  exact ⟨ret_b HG.out, hb2⟩

set_option maxHeartbeats 1000000 in
theorem indexZ (l : List Int) (v : Value) (g : FuncId) (caps : Array Value) (p : Int → Bool) (w : World) (hn : l.length ≤ 1048576) (hin : Enters Tryz.prog g) (hr : Rd w w.heap.size v (.list 1 l.length (l.map (D.int .i64))))
    (hp : ∀ (i : Nat) (h : i < l.length) (W : World), Below w.heap.size w W → Calls Tryz.prog g (#[.int .i64 (l[i]'h)] ++ caps) W fun e w' => e = .returned (.bool (p (l[i]'h))) ∧ Below W.heap.size W w') :
    Calls Tryz.prog 251 #[v, .func (.func g) #[] caps] w fun e w' => e = .returned (.int .i64 (idxZ p l 0)) ∧ Below w.heap.size w w' := by
  obtain ⟨a, cap, rfl⟩ := hr.slice_inv
  have HP := Lib.hid hp
  clear hp
  unfold Enters at hin
  go_enter Tryz.func251, Tryz.ntmps251
  go_wp2
  go_loopw [8] (fun u wr => ∃ k : Nat, k ≤ l.length ∧ u = .int .i64 k ∧ Hid (idxZ p l 0 = idxZ p (l.drop k) k) ∧ Below w.heap.size w wr) (fun u _ => l.length - (intOf u).toNat)
  case atStart => exact ⟨0, Nat.zero_le _, rfl, rfl, Below.refl _ _⟩
  case round =>
    obtain ⟨k, hk, rfl, HE, hbel⟩ := hrel
    by_cases hlt : k < l.length
    · obtain ⟨b, off, cap', us, hv, hb, hc, hcell, hus⟩ := (show Rd w w.heap.size _ (.list 1 l.length (l.flatMap fun z : Int => [D.int .i64 z])) by rw [ints_flat]; exact hr).elem (fun _ => rfl) rfl k hlt (by omega)
      injection hv with ha hn' hcap
      subst ha hcap
      obtain ⟨v0, u0, rfl, h0, t0⟩ := hus.cons_inv
      obtain ⟨rfl, w0⟩ := h0.int_inv
      have c0 := (hbel.cell (p := ⟨b, off + k * 1, none⟩) hb).trans (hcell 0 _ rfl)
      rw [Nat.mul_one] at c0
      clear hcell
      go_wp2_with fail
      refine (HP.out k hlt wr hbel).mono ?_
      rintro e w2 ⟨rfl, hb2⟩
      have hs2 := hb2.size
      by_cases hpk : p l[k] = true
      · rw [hpk]
        go_wp2
        go_ret
        refine ⟨ret_i ?_, hbel.trans (hb2.mono hbel.size)⟩
        rw [HE.out, idxZ_drop p l k hlt, if_pos hpk]
      · have hpk' : p l[k] = false := by simpa using hpk
        rw [hpk']
        go_wp2
        go_roundw
        case rel => exact ⟨k + 1, hlt, by go_num, by show _ = _; rw [HE.out, idxZ_drop p l k hlt, if_neg hpk], hbel.trans (hb2.mono hbel.size)⟩
        case measure => simp [intOf]; omega
    · go_wp2
      go_ret
      exact ⟨ret_i (by rw [HE.out, idxZ_end p l k (by omega)]), hbel⟩

theorem containsZ (l : List Int) (v : Value) (g : FuncId) (caps : Array Value) (p : Int → Bool) (w : World) (hn : l.length ≤ 1048576) (hin : Enters Tryz.prog g) (hr : Rd w w.heap.size v (.list 1 l.length (l.map (D.int .i64))))
    (hp : ∀ (i : Nat) (h : i < l.length) (W : World), Below w.heap.size w W → Calls Tryz.prog g (#[.int .i64 (l[i]'h)] ++ caps) W fun e w' => e = .returned (.bool (p (l[i]'h))) ∧ Below W.heap.size W w') :
    Calls Tryz.prog 157 #[v, .func (.func g) #[] caps] w fun e w' => e = .returned (.bool (l.any p)) ∧ Below w.heap.size w w' := by
  obtain ⟨a, cap, rfl⟩ := hr.slice_inv
  have HC := Lib.hid (indexZ l _ g caps p w hn hin hr hp)
  have HG := Lib.hid (idxZ_ge p l 0 (by omega))
  obtain ⟨z, hz⟩ : ∃ z, idxZ p l 0 = z := ⟨_, rfl⟩
  rw [hz] at HC HG
  clear hp hin hz hr
  go_enter Tryz.func157, Tryz.ntmps157
  go_wp2_with fail
  refine HC.out.mono ?_
  rintro e w2 ⟨rfl, hb2⟩
  go_wp2
  go_ret
  exact ⟨ret_b HG.out, hb2⟩

end Go.Proofs.YtpndkjjkdeingaaGreatDoor
