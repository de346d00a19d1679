/- Contracts: types. -/
import Derived.Test.YtdhodaefgliphaaGreatDoorCor
import Derived.Test.YtdhodaefgliphaaGreatDoorChecked
import Derived.Deep.QuietTactic
import Derived.BigQuiet
import Derived.Deep.RegionWith
import Derived.ChangeAlike
import Derived.Deep.Light
import Derived.Test.YtdhodaefgliphaaGreatDoorIdg
import Derived.Laws.EntriesVeiled
import Derived.Maps.Own
import Derived.Maps.OwnOps
import Derived.Maps.Views
import Derived.Deep.AppendLies
set_option linter.unusedVariables false
set_option linter.unusedSimpArgs false
namespace Go.Proofs.YtdhodaefgliphaaGreatDoor
open Go.RowKit
def kidsZ (k : Int) : Int := if k = 6 then 1 else if k = 7 then 2 else if k = 8 then -1 else 0
set_option maxHeartbeats 400000 in
theorem kids_any (k : Int) (w : World) :
  Calls Tryz.prog 120 #[.int .u8 k] w fun e w' => e = .returned (.int .i64 (kidsZ k)) ∧ w = w' := by
 go_enter Tryz.func120, Tryz.ntmps120
 go_wp2
 all_goals (go_ret; exact ⟨by simp_all [kidsZ], rfl⟩)
def oneB (c : Int) : Bool := decide (1 ≤ c ∧ c ≤ 3)
set_option maxHeartbeats 400000 in
theorem one_any (c : Int) (w : World) :
  Calls Tryz.prog 157 #[.int .u8 c] w fun e w' => e = .returned (.bool (oneB c)) ∧ w = w' := by
 go_enter Tryz.func157, Tryz.ntmps157
 go_wp2
 all_goals (go_ret; refine ⟨ret_b ?_, rfl⟩; go_light; simp [oneB]; omega)
def isMu (v c : Int) : Int := if (c = 0 ∧ 0 ≤ v ∧ v < 1048576) ∨ (1 ≤ c ∧ c ≤ 3 ∧ v = 0) then 0 else 2
set_option maxHeartbeats 400000 in
theorem is_any (v c : Int) (w : World) :
  Calls Tryz.prog 121 #[.agg #[.int .i64 v, .int .u8 c]] w fun e w' => e = .returned (.int .i64 (isMu v c)) ∧ Below w.heap.size w w' := by
 go_enter Tryz.func121, Tryz.ntmps121
 go_wp2_with (go_at_call 157; refine (one_any _ _).mono ?_; rintro e w2 ⟨rfl, rfl⟩)
 all_goals
  go_ret
  refine ⟨ret_i ?_, (Below.refl _ _).alloc (Nat.le_refl _) _⟩
  go_light
  try simp [oneB] at *
  unfold isMu
  split <;> omega
def isT (k n v c : Int) (len : Nat) : Bool := decide (1 ≤ k ∧ k ≤ 8 ∧ 0 ≤ n ∧ (k = 1 → n < 1048576) ∧ (k = 8 → n < 40) ∧ (k ≠ 1 → k ≠ 8 → n = 0) ∧ (0 ≤ kidsZ k → (len : Int) = kidsZ k) ∧ len ≤ 4 ∧ ((v = 0 ∧ c = 0) ∨ (k = 7 ∧ isMu v c = 0)))
set_option maxHeartbeats 4000000 in
theorem tyis_any (k n v c : Int) (a : Option Addr) (len cap : Nat) (hl : len ≤ 1048576) (w : World) :
  Calls Tryz.prog 75 #[.agg #[.int .u8 k, .int .i64 n, .int .i64 v, .int .u8 c, .slice a len cap]] w fun e w' => e = .returned (.bool (isT k n v c len)) ∧ Below w.heap.size w w' := by
 go_enter Tryz.func75, Tryz.ntmps75
 go_wp2_with (first
  | (go_at_call 120; refine (kids_any _ _).mono ?_; rintro e w2 ⟨rfl, rfl⟩)
  | (go_at_call 121; refine (is_any _ _ _).mono ?_; rintro e w2 ⟨rfl, hb2⟩))
 all_goals
  go_ret
  refine ⟨ret_b ?_, ?_⟩
  ·go_light
   try subst_vars
   have k7 : kidsZ 7 = 2 := rfl
   rw [Bool.eq_iff_iff]
   simp [isT] at *
   try omega
  ·first
    | exact (Below.refl _ _).alloc (Nat.le_refl _) _
    | exact ((Below.refl _ _).alloc (Nat.le_refl _) _).trans (hb2.mono (by simp))
end Go.Proofs.YtdhodaefgliphaaGreatDoor
namespace Go.Proofs.YtdhodaefgliphaaGreatDoor
open Go.RowKit
theorem sizes_drop (l : List Ty) (k : Nat) (h : k < l.length) : Ty.size.sizes (l.drop k) = l[k].size + Ty.size.sizes (l.drop (k + 1)) := by
 rw [List.drop_eq_getElem_cons h, Ty.size.sizes]
theorem sizes_end (l : List Ty) (k : Nat) (h : l.length ≤ k) : Ty.size.sizes (l.drop k) = 0 := by rw [List.drop_of_length_le h]; rfl
theorem size_eq (t : Ty) : t.size = 1 + Ty.size.sizes t.l := by cases t; simp [Ty.size, Ty.l]
theorem size_pos (t : Ty) : 1 ≤ t.size := by rw [size_eq]; omega
theorem sizes_len : ∀ l : List Ty, l.length ≤ Ty.size.sizes l
 | [] => by simp
 | t :: l => by have := sizes_len l; have := size_pos t; simp only [Ty.size.sizes, List.length_cons]; omega
theorem sizes_get (l : List Ty) (k : Nat) (h : k < l.length) : l[k].size ≤ Ty.size.sizes l := Ty.size_mem (List.getElem_mem h)
set_option maxHeartbeats 1000000 in
theorem size_any : ∀ (N : Nat) (t : Ty) (us : List Value) (w : World), t.size ≤ N → t.size ≤ 1048576 → Rds w w.heap.size us t.d →
  Calls Tryz.prog 73 #[.agg us.toArray] w fun e w' => e = .returned (.int .i64 t.size) ∧ Below w.heap.size w w' := by
 intro N
 induction N with
 | zero => intro t us w h; have := size_pos t; omega
 | succ N ih =>
   intro t us w hN hs hus
   have IH := Lib.hid ih
   clear ih
   obtain ⟨v4, rfl, h4, w0, w1, w2, w3⟩ := Ty.cells hus
   have hsz := size_eq t
   obtain ⟨l, hl⟩ : ∃ l, t.l = l := ⟨_, rfl⟩
   rw [hl] at h4 hsz
   have HL := Lib.hid hl
   have hlen : l.length ≤ 1048576 := by have := sizes_len l; omega
   obtain ⟨a, cap, rfl⟩ := h4.slice_inv
   have HS := Lib.hid hsz
   clear hsz hl hus
   go_enter Tryz.func73, Tryz.ntmps73
   go_wp2
   obtain ⟨w0', hw0⟩ : ∃ W, w.alloc (.cells #[.int .u8 t.kind, .int .i64 t.n, .int .i64 t.v, .int .u8 t.c, .slice a l.length cap] 93) = W := ⟨_, rfl⟩
   go_loopw [3, 9] (fun u3 u9 wr => ∃ k acc : Nat, k ≤ l.length ∧ u9 = .int .i64 k ∧ u3 = .int .i64 acc ∧ acc ≤ t.size ∧ Hid (acc + Ty.size.sizes (l.drop k) = t.size) ∧ Below w.heap.size w wr) (fun _ u _ => l.length - (intOf u).toNat)
   case atStart => exact ⟨0, 1, Nat.zero_le _, rfl, rfl, size_pos t, HS.out.symm, (Below.refl _ _).alloc (Nat.le_refl _) _⟩
   case round =>
    obtain ⟨k, acc, hk, rfl, rfl, hacc, HE, hbel⟩ := hrel
    have hsz0 := hbel.size
    by_cases hlt : k < l.length
    ·obtain ⟨b, off, cap', us, hv, hb, hc, hcell, hus⟩ := h4.elem Ty.d_len rfl k hlt (by omega)
     injection hv with ha hn' hcap
     subst ha hcap
     have hsub : l[k].size + Ty.size.sizes (l.drop (k + 1)) + acc = t.size := by rw [← HE.out, sizes_drop l k hlt]; omega
     have hN' : l[k].size ≤ N ∧ acc + l[k].size ≤ t.size := ⟨by have := sizes_get l k hlt; have := HS.out; omega, by omega⟩
     have HS' := Lib.hid hsub
     clear hsub
     obtain ⟨v4', hus', h4', x0, x1, x2, x3⟩ := Ty.cells hus
     have HC := Lib.hid (fun (W : World) (hB : Below w.heap.size w W) => IH.out l[k] us W hN'.1 (by omega) ((hus.keep hB).mono hB.size))
     obtain ⟨a2, cap2, rfl⟩ := h4'.slice_inv
     subst hus'
     have c0 := (hbel.cell (p := ⟨b, off + k * 5, none⟩) hb).trans (hcell 0 _ rfl)
     have c1 := (hbel.cell (p := ⟨b, off + k * 5 + 1, none⟩) hb).trans (hcell 1 _ rfl)
     have c2 := (hbel.cell (p := ⟨b, off + k * 5 + 2, none⟩) hb).trans (hcell 2 _ rfl)
     have c3 := (hbel.cell (p := ⟨b, off + k * 5 + 3, none⟩) hb).trans (hcell 3 _ rfl)
     have c4 := (hbel.cell (p := ⟨b, off + k * 5 + 4, none⟩) hb).trans (hcell 4 _ rfl)
     clear hcell
     go_wp2_with fail
     refine (HC.out _ (by (repeat (with_reducible first | exact hbel | refine Below.setCell ?_ ?_ _ | refine Below.alloc ?_ ?_ _ | refine Below.drew ?_)) <;> first | omega | (simp; omega) | (simp; done))).mono ?_
     rintro e w2 ⟨rfl, hb2⟩
     have hs2 := hb2.size
     have hb3 : Below w.heap.size w w2 := by
      refine Below.trans ?_ (hb2.mono (by simp; omega))
      (repeat (with_reducible first | exact hbel | refine Below.setCell ?_ ?_ _ | refine Below.alloc ?_ ?_ _ | refine Below.drew ?_)) <;> first | omega | (simp; omega) | (simp; done)
     go_wp2
     go_roundw
     case rel => exact ⟨k + 1, acc + l[k].size, hlt, by go_num, by go_num, hN'.2, by show _ = _; have := HS'.out; omega, hb3⟩
     case measure => simp [intOf]; omega
    ·go_wp2
     go_ret
     exact ⟨ret_i (by have := HE.out; rw [sizes_end l k (by omega)] at this; omega), hbel⟩
end Go.Proofs.YtdhodaefgliphaaGreatDoor
namespace Go.Proofs.YtdhodaefgliphaaGreatDoor
open Go.RowKit
namespace Ty
mutual
def ok : Ty → Bool
 | .mk k n v c l => isT k n v c l.length && okl l
def okl : List Ty → Bool
 | [] => true
 | t :: r => t.ok && okl r
end
theorem okl_any : ∀ l : List Ty, (l.any fun x => !x.ok) = !okl l
 | [] => rfl
 | t :: r => by simp only [List.any_cons, okl, okl_any r]; cases t.ok <;> simp
theorem ok_eq (t : Ty) : t.ok = (isT t.kind t.n t.v t.c t.l.length && !(t.l.any fun x => !x.ok)) := by
 cases t; simp only [ok, kind, n, v, c, l, okl_any, Bool.not_not]
end Ty
def mayF (cb : Nat) : Value := .func (.func 74) #[] #[.pointer (some ⟨cb, 0, none⟩)]
theorem enters64 : Enters Tryz.prog 74 := enters Tryz.func74 (by kernel_rfl) rfl
theorem enters67 : Enters Tryz.prog 77 := enters Tryz.func77 (by kernel_rfl) rfl
set_option maxHeartbeats 1000000 in
theorem may11_any (t : Ty) (us : List Value) (cb : Nat) (b : Bool) (w : World) (hus : Rds w w.heap.size us t.d) (hcb : cb < w.heap.size) (hc : w.cell? ⟨cb, 0, none⟩ = some (mayF cb))
  (h64 : ∀ W, Below w.heap.size w W → Calls Tryz.prog 74 #[.agg us.toArray, .pointer (some ⟨cb, 0, none⟩)] W fun e w' => e = .returned (.bool b) ∧ Below W.heap.size W w') :
  Calls Tryz.prog 77 #[.agg us.toArray, .pointer (some ⟨cb, 0, none⟩)] w fun e w' => e = .returned (.bool (!b)) ∧ Below w.heap.size w w' := by
 have H := Lib.hid h64
 clear h64
 have hin := enters64
 unfold Enters at hin
 unfold mayF at hc
 obtain ⟨v4, rfl, h4, _⟩ := Ty.cells hus
 obtain ⟨a, cap, rfl⟩ := h4.slice_inv
 clear hus h4
 go_enter Tryz.func77, Tryz.ntmps77
 go_wp2_with fail
 refine (H.out _ ((Below.refl _ _).alloc (Nat.le_refl _) _)).mono ?_
 rintro e w2 ⟨rfl, hb2⟩
 cases b
 all_goals
  go_wp2
  go_ret
  exact ⟨rfl, ((Below.refl _ _).alloc (Nat.le_refl _) _).trans (hb2.mono (by simp))⟩
set_option maxHeartbeats 1000000 in
theorem may1_any : ∀ (N : Nat) (t : Ty) (us : List Value) (cb : Nat) (w : World), t.size ≤ N → t.size ≤ 1048576 → Rds w w.heap.size us t.d → cb < w.heap.size → w.cell? ⟨cb, 0, none⟩ = some (mayF cb) →
  Calls Tryz.prog 74 #[.agg us.toArray, .pointer (some ⟨cb, 0, none⟩)] w fun e w' => e = .returned (.bool t.ok) ∧ Below w.heap.size w w' := by
 intro N
 induction N with
 | zero => intro t us cb w h; have := size_pos t; omega
 | succ N ih =>
   intro t us cb w hN hs hus hcb hc
   obtain ⟨v4, rfl, h4, _⟩ := Ty.cells hus
   have hsz := size_eq t
   have hlen : t.l.length ≤ 1048576 := by have := sizes_len t.l; omega
   have hall : ∀ (W : World), Below w.heap.size w W → Calls Tryz.prog 76 #[v4, .func (.func 77) #[] #[.pointer (some ⟨cb, 0, none⟩)]] W fun e w' => e = .returned (.bool (t.l.any fun x => !x.ok)) ∧ Below W.heap.size W w' := by
    intro W hW
    have hcW : W.cell? ⟨cb, 0, none⟩ = some (mayF cb) := (hW.cell (p := ⟨cb, 0, none⟩) hcb).trans hc
    have hcbW : cb < W.heap.size := Nat.lt_of_lt_of_le hcb hW.size
    refine containsTy t.l v4 77 #[.pointer (some ⟨cb, 0, none⟩)] (fun x => !x.ok) W hlen enters67 ((h4.keep hW).mono hW.size) ?_
    intro i hi W2 us2 hW2 hus2
    have hsub := sizes_get t.l i hi
    refine may11_any (t.l[i]) us2 cb _ W2 ((hus2.keep hW2).mono hW2.size) (Nat.lt_of_lt_of_le hcbW hW2.size) ((hW2.cell (p := ⟨cb, 0, none⟩) hcbW).trans hcW) fun W3 hW3 => ?_
    have hW23 := hW2.trans (hW3.mono hW2.size)
    exact ih (t.l[i]) us2 cb W3 (by omega) (by omega) ((hus2.keep hW23).mono hW23.size) (Nat.lt_of_lt_of_le hcbW hW23.size) ((hW23.cell (p := ⟨cb, 0, none⟩) hcbW).trans hcW)
   have HA := Lib.hid hall
   obtain ⟨a, cap, rfl⟩ := h4.slice_inv
   have HE := Lib.hid (Ty.ok_eq t)
   obtain ⟨B, hB⟩ : ∃ B, (t.l.any fun x => !x.ok) = B := ⟨_, rfl⟩
   rw [hB] at HA HE
   clear hall hsz ih hc hus h4 hB
   go_enter Tryz.func74, Tryz.ntmps74
   go_wp2_with fail
   refine (tyis_any _ _ _ _ _ _ _ hlen _).mono ?_
   rintro e w2 ⟨rfl, hb2⟩
   have hb3 := ((Below.refl w.heap.size w).alloc (Nat.le_refl _) _).trans (hb2.mono (by simp))
   obtain ⟨I, hI⟩ : ∃ I, isT t.kind t.n t.v t.c t.l.length = I := ⟨_, rfl⟩
   rw [hI] at HE ⊢
   clear hI
   have c3 : w2.cell? ⟨w.heap.size, 4, none⟩ = some (.slice a t.l.length cap) := by
    rw [hb2.cell (p := ⟨w.heap.size, 4, none⟩) (by simp)]; exact (Blk.new w _ _ _ rfl).cell 4
   cases I
   ·go_wp2
    go_ret
    exact ⟨ret_b (by rw [HE.out]; rfl), hb3⟩
   ·go_wp2_with fail
    refine (HA.out _ hb3).mono ?_
    rintro e w4 ⟨rfl, hb4⟩
    cases B
    all_goals
     go_wp2
     go_ret
     exact ⟨ret_b (by rw [HE.out]; rfl), hb3.trans (hb4.mono hb3.size)⟩
def tyMay (t : Ty) : Int := if 300 < t.size then 3 else if t.ok then 0 else 2
set_option maxHeartbeats 1000000 in
theorem tymay_any (t : Ty) (us : List Value) (w : World) (hs : t.size ≤ 1048576) (hus : Rds w w.heap.size us t.d) :
  Calls Tryz.prog 31 #[.agg us.toArray] w fun e w' => e = .returned (.int .i64 (tyMay t)) ∧ Below w.heap.size w w' := by
 have HS := Lib.hid (fun (W : World) (hW : Below w.heap.size w W) => size_any t.size t us W (Nat.le_refl _) hs ((hus.keep hW).mono hW.size))
 have HM := Lib.hid (fun (W : World) (hW : Below w.heap.size w W) (cb : Nat) (h1 : cb < W.heap.size) (h2 : W.cell? ⟨cb, 0, none⟩ = some (mayF cb)) => may1_any t.size t us cb W (Nat.le_refl _) hs ((hus.keep hW).mono hW.size) h1 h2)
 have hin := enters64
 unfold Enters at hin
 obtain ⟨v4, rfl, h4, _⟩ := Ty.cells hus
 obtain ⟨a, cap, rfl⟩ := h4.slice_inv
 obtain ⟨OK, hOK⟩ : ∃ B, t.ok = B := ⟨_, rfl⟩
 have HOK := Lib.hid hOK
 rw [hOK] at HM
 clear hus h4 hOK
 go_enter Tryz.func31, Tryz.ntmps31
 go_wp2_with fail
 refine (HS.out _ ((Below.refl _ _).alloc (Nat.le_refl _) _)).mono ?_
 rintro e w2 ⟨rfl, hb2⟩
 have hb3 := ((Below.refl w.heap.size w).alloc (Nat.le_refl _) _).trans (hb2.mono (by simp))
 have hs3 : w.heap.size < w2.heap.size := by have := hb2.size; simp at this; omega
 by_cases h300 : 300 < t.size
 ·have e1 : decide ((300 : Int) < (t.size : Int)) = true := decide_eq_true (by omega)
  go_wp2
  go_ret
  exact ⟨ret_i (by simp [tyMay, h300]), hb3⟩
 ·have e1 : decide ((300 : Int) < (t.size : Int)) = false := decide_eq_false (by omega)
  have d0 := (hb2.cell (p := ⟨w.heap.size, 0, none⟩) (by simp)).trans ((Blk.new w _ _ _ rfl).cell 0)
  have d1 := (hb2.cell (p := ⟨w.heap.size, 1, none⟩) (by simp)).trans ((Blk.new w _ _ _ rfl).cell 1)
  have d2 := (hb2.cell (p := ⟨w.heap.size, 2, none⟩) (by simp)).trans ((Blk.new w _ _ _ rfl).cell 2)
  have d3 := (hb2.cell (p := ⟨w.heap.size, 3, none⟩) (by simp)).trans ((Blk.new w _ _ _ rfl).cell 3)
  have d4 := (hb2.cell (p := ⟨w.heap.size, 4, none⟩) (by simp)).trans ((Blk.new w _ _ _ rfl).cell 4)
  simp only [List.getElem?_toArray, List.getElem?_cons_zero, List.getElem?_cons_succ] at d0 d1 d2 d3 d4
  go_wp2_with fail
  refine (HM.out _ (by (repeat (with_reducible first | exact hb3 | refine Below.setCell ?_ ?_ _ | refine Below.alloc ?_ ?_ _ | refine Below.drew ?_)) <;> first | omega | (simp; omega) | (simp; done)) w2.heap.size (by simp) ((Blk.new w2 _ _ _ rfl).cell 0)).mono ?_
  rintro e w4 ⟨rfl, hb4⟩
  have hb5 : Below w.heap.size w w4 := by
   refine Below.trans ?_ (hb4.mono (by simp; omega))
   (repeat (with_reducible first | exact hb3 | refine Below.setCell ?_ ?_ _ | refine Below.alloc ?_ ?_ _ | refine Below.drew ?_)) <;> first | omega | (simp; omega) | (simp; done)
  cases OK
  all_goals
   go_wp2
   go_ret
   exact ⟨ret_i (by simp [tyMay, h300, HOK.out]), hb5⟩
end Go.Proofs.YtdhodaefgliphaaGreatDoor
namespace Go.Proofs.YtdhodaefgliphaaGreatDoor
open Go.RowKit
def parOf (s : Sig) (n : Nat) : Int := match s.datas[n]? with | some d => d.params | none => 0
def wok (s : Sig) (p k n c : Int) (len : Nat) : Bool := decide (¬(k = 1 ∧ p ≤ n) ∧ ¬(k = 7 ∧ c = 0) ∧ (k = 8 → n < s.datas.length ∧ (len : Int) = parOf s n.toNat))
namespace Ty
mutual
def whole (s : Sig) (p : Int) : Ty → Bool
 | .mk k n _ c l => wok s p k n c l.length && wholel s p l
def wholel (s : Sig) (p : Int) : List Ty → Bool
 | [] => true
 | t :: r => t.whole s p && wholel s p r
end
theorem wholel_any (s : Sig) (p : Int) : ∀ l : List Ty, (l.any fun x => !x.whole s p) = !wholel s p l
 | [] => rfl
 | t :: r => by simp only [List.any_cons, wholel, wholel_any s p r]; cases t.whole s p <;> simp
theorem whole_eq (s : Sig) (p : Int) (t : Ty) : t.whole s p = (wok s p t.kind t.n t.c t.l.length && !(t.l.any fun x => !x.whole s p)) := by
 cases t; simp only [whole, kind, n, c, l, wholel_any, Bool.not_not]
theorem ok_is {t : Ty} (h : t.ok = true) : isT t.kind t.n t.v t.c t.l.length = true := by
 rw [ok_eq] at h; simp at h; exact h.1
theorem ok_kid {t : Ty} (h : t.ok = true) (x : Ty) (hx : x ∈ t.l) : x.ok = true := by
 rw [ok_eq] at h; simp at h; exact h.2 x hx
end Ty
theorem enters68 : Enters Tryz.prog 78 := enters Tryz.func78 (by kernel_rfl) rfl
set_option maxHeartbeats 1000000 in
theorem whole1_any (s : Sig) (ss us : List Value) (t : Ty) (p : Int) (sb pb : Nat) (b : Bool) (w : World) (hss : Rds w w.heap.size ss s.d) (hus : Rds w w.heap.size us t.d) (hsb : sb < w.heap.size) (hpb : pb < w.heap.size)
  (hcs : ∀ j u, ss[j]? = some u → w.cell? ⟨sb, j, none⟩ = some u) (hcp : w.cell? ⟨pb, 0, none⟩ = some (.int .i64 p))
  (hw : ∀ W, Below w.heap.size w W → Calls Tryz.prog 32 #[.agg ss.toArray, .agg us.toArray, .int .i64 p] W fun e w' => e = .returned (.bool b) ∧ Below W.heap.size W w') :
  Calls Tryz.prog 78 #[.agg us.toArray, .pointer (some ⟨sb, 0, none⟩), .pointer (some ⟨pb, 0, none⟩)] w fun e w' => e = .returned (.bool (!b)) ∧ Below w.heap.size w w' := by
 have H := Lib.hid hw
 clear hw
 obtain ⟨v4, rfl, h4, -⟩ := Ty.cells hus
 obtain ⟨a, cap, rfl⟩ := h4.slice_inv
 obtain ⟨v0, v1, rfl, g0, g1⟩ := Sig.cells hss
 obtain ⟨a0, cap0, rfl⟩ := g0.slice_inv
 obtain ⟨a1, cap1, rfl⟩ := g1.slice_inv
 have c0 := hcs 0 _ rfl
 have c1 := hcs 1 _ rfl
 clear hus h4 hss g0 g1 hcs
 go_enter Tryz.func78, Tryz.ntmps78
 go_wp2_with fail
 refine (H.out _ ((Below.refl _ _).alloc (Nat.le_refl _) _)).mono ?_
 rintro e w2 ⟨rfl, hb2⟩
 cases b
 all_goals
  go_wp2
  go_ret
  exact ⟨rfl, ((Below.refl _ _).alloc (Nat.le_refl _) _).trans (hb2.mono (by simp))⟩
set_option maxHeartbeats 4000000 in
theorem whole_any : ∀ (N : Nat) (s : Sig) (ss us : List Value) (t : Ty) (p : Int) (w : World), t.size ≤ N → t.size ≤ 1048576 → s.datas.length ≤ 1048576 → t.ok = true → Rds w w.heap.size ss s.d → Rds w w.heap.size us t.d →
  Calls Tryz.prog 32 #[.agg ss.toArray, .agg us.toArray, .int .i64 p] w fun e w' => e = .returned (.bool (t.whole s p)) ∧ Below w.heap.size w w' := by
 intro N
 induction N with
 | zero => intro s ss us t p w h; have := size_pos t; omega
 | succ N ih =>
   intro s ss us t p w hN hs hds hok hss hus
   have hsz := size_eq t
   have hlen : t.l.length ≤ 1048576 := by have := sizes_len t.l; omega
   have hall : ∀ (W : World) (v4 : Value) (sb pb : Nat), Below w.heap.size w W → Rd w w.heap.size v4 (.list 5 t.l.length (t.l.flatMap Ty.d)) → sb < W.heap.size → pb < W.heap.size → (∀ j u, ss[j]? = some u → W.cell? ⟨sb, j, none⟩ = some u) → W.cell? ⟨pb, 0, none⟩ = some (.int .i64 p) →
     Calls Tryz.prog 76 #[v4, .func (.func 78) #[] #[.pointer (some ⟨sb, 0, none⟩), .pointer (some ⟨pb, 0, none⟩)]] W fun e w' => e = .returned (.bool (t.l.any fun x => !x.whole s p)) ∧ Below W.heap.size W w' := by
    intro W v4 sb pb hW h4 hsb hpb hcs hcp
    refine containsTy t.l v4 78 #[.pointer (some ⟨sb, 0, none⟩), .pointer (some ⟨pb, 0, none⟩)] (fun x => !x.whole s p) W hlen enters68 ((h4.keep hW).mono hW.size) ?_
    intro i hi W2 us2 hW2 hus2
    have hsub := sizes_get t.l i hi
    refine whole1_any s ss us2 (t.l[i]) p sb pb _ W2 ((hss.keep (hW.trans (hW2.mono hW.size))).mono (Nat.le_trans hW.size hW2.size)) ((hus2.keep hW2).mono hW2.size) (Nat.lt_of_lt_of_le hsb hW2.size) (Nat.lt_of_lt_of_le hpb hW2.size)
     (fun j u hj => (hW2.cell (p := ⟨sb, j, none⟩) hsb).trans (hcs j u hj)) ((hW2.cell (p := ⟨pb, 0, none⟩) hpb).trans hcp) fun W3 hW3 => ?_
    have hW23 := hW2.trans (hW3.mono hW2.size)
    have hW13 := hW.trans (hW23.mono hW.size)
    exact ih s ss us2 (t.l[i]) p W3 (by omega) (by omega) hds (Ty.ok_kid hok _ (List.getElem_mem hi)) ((hss.keep hW13).mono hW13.size) ((hus2.keep hW23).mono hW23.size)
   have HA := Lib.hid hall
   have HE := Lib.hid (Ty.whole_eq s p t)
   have his := Ty.ok_is hok
   obtain ⟨B, hB⟩ : ∃ B, (t.l.any fun x => !x.whole s p) = B := ⟨_, rfl⟩
   rw [hB] at HA HE
   clear hall hsz ih hB hok
   obtain ⟨v4, rfl, h4, -⟩ := Ty.cells hus
   obtain ⟨v0, v1, rfl, g0, g1⟩ := Sig.cells hss
   have H4 := Lib.hid h4
   obtain ⟨a, cap, rfl⟩ := h4.slice_inv
   have G0 := Lib.hid g0
   obtain ⟨a0, cap0, rfl⟩ := g0.slice_inv
   obtain ⟨a1, cap1, rfl⟩ := g1.slice_inv
   clear hus hss g0 g1 h4
   obtain ⟨k, n, v, c, l⟩ := t
   simp only [Ty.kind, Ty.n, Ty.v, Ty.c, Ty.l] at *
   simp only [isT, decide_eq_true_eq] at his
   obtain ⟨k1, k8, n0, -⟩ := his
   by_cases hk8 : k = 8
   ·subst hk8
    obtain ⟨m, rfl⟩ := Int.eq_ofNat_of_zero_le n0
    by_cases hlt : m < s.datas.length
    ·obtain ⟨b, off, cap', us, hv, hb, hc, hcell, hus⟩ := G0.out.elem Data.d_len rfl m hlt (by omega)
     injection hv with ha hn' hcap
     subst ha hcap
     obtain ⟨d2, rfl, _, _, q2⟩ := Data.cells hus
     have hpar : parOf s m = (s.datas[m]).params := by simp [parOf, hlt]
     obtain ⟨P, hP⟩ : ∃ P, (s.datas[m]).params = P := ⟨_, rfl⟩
     rw [hP] at hpar
     have c1 := hcell 1 _ rfl
     rw [hP] at c1
     clear hcell hus q2 hP
     have HP := Lib.hid hpar
     clear hpar
     have t1 : decide (s.datas.length ≤ m) = false := decide_eq_false (by omega)
     have c1 := cell_al3 c1 hb
     by_cases hL : (l.length : Int) = P
     ·have t3 : ((l.length : Int) != P) = false := by simpa using hL
      have hw8 : wok s p 8 (m : Int) c l.length = true := by simp [wok, HP.out, hL, hlt]
      have HW := Lib.hid hw8
      clear hw8 hL
      go_enter Tryz.func32, Tryz.ntmps32
      go_wp2_with fail
      go_quiet (fail)
      go_wp2_with fail
      refine (HA.out _ _ _ _ (by (repeat (with_reducible first | exact Below.refl _ _ | refine Below.setCell ?_ ?_ _ | refine Below.alloc ?_ ?_ _ | refine Below.drewN ?_ _ | refine Below.drew ?_)) <;> first | omega | (simp; omega) | (simp; done)) H4.out (by first | omega | (simp; omega) | (simp; done)) (by first | omega | (simp; omega) | (simp; done)) (fun j u hj => by
       have hj' : #[Value.slice (some ⟨b, off, none⟩) s.datas.length cap0, .slice a1 s.cons.length cap1][j]? = some u := by simpa using hj
       rw [← hj']
       exact (((Blk.new w _ _ _ rfl).alloc _).alloc _).cell j) ((Blk.new _ _ _ _ (by simp)).cell 0)).mono ?_
      rintro e w4 ⟨rfl, hb4⟩
      have hb5 : Below w.heap.size w w4 := by
       refine Below.trans ?_ (hb4.mono (by first | omega | (simp; omega) | (simp; done)))
       (repeat (with_reducible first | exact Below.refl _ _ | refine Below.setCell ?_ ?_ _ | refine Below.alloc ?_ ?_ _ | refine Below.drewN ?_ _ | refine Below.drew ?_)) <;> first | omega | (simp; omega) | (simp; done)
      cases B
      all_goals
       go_wp2
       go_ret
       exact ⟨ret_b (by rw [HE.out, HW.out]; rfl), hb5⟩
     ·have t3 : ((l.length : Int) != P) = true := by simpa using hL
      have hw8 : wok s p 8 (m : Int) c l.length = false := by simp [wok, HP.out, hL]
      have HW := Lib.hid hw8
      clear hw8 hL
      go_enter Tryz.func32, Tryz.ntmps32
      go_wp2_with fail
      go_quiet (fail)
      go_wp2
      go_ret
      exact ⟨ret_b (by rw [HE.out, HW.out]; rfl), by (repeat (with_reducible first | exact Below.refl _ _ | refine Below.setCell ?_ ?_ _ | refine Below.alloc ?_ ?_ _ | refine Below.drewN ?_ _ | refine Below.drew ?_)) <;> first | omega | (simp; omega) | (simp; done)⟩
    ·have t1 : decide (s.datas.length ≤ m) = true := decide_eq_true (by omega)
     have hw8 : wok s p 8 (m : Int) c l.length = false := by simp [wok]; omega
     have HW := Lib.hid hw8
     clear hw8
     go_enter Tryz.func32, Tryz.ntmps32
     go_wp2_with fail
     go_quiet (fail)
     go_wp2
     go_ret
     exact ⟨ret_b (by rw [HE.out, HW.out]; rfl), by (repeat (with_reducible first | exact Below.refl _ _ | refine Below.setCell ?_ ?_ _ | refine Below.alloc ?_ ?_ _ | refine Below.drewN ?_ _ | refine Below.drew ?_)) <;> first | omega | (simp; omega) | (simp; done)⟩
   ·have t8 : (k == 8) = false := by simpa using hk8
    by_cases hk1 : k = 1 ∧ p ≤ n
    ·obtain ⟨rfl, hpn⟩ := hk1
     have hw8 : wok s p 1 n c l.length = false := by simp [wok]; omega
     have HW := Lib.hid hw8
     clear hw8
     go_enter Tryz.func32, Tryz.ntmps32
     go_wp2
     go_ret
     exact ⟨ret_b (by rw [HE.out, HW.out]; rfl), by (repeat (with_reducible first | exact Below.refl _ _ | refine Below.setCell ?_ ?_ _ | refine Below.alloc ?_ ?_ _ | refine Below.drewN ?_ _ | refine Below.drew ?_)) <;> first | omega | (simp; omega) | (simp; done)⟩
    by_cases hk7 : k = 7 ∧ c = 0
    ·obtain ⟨rfl, rfl⟩ := hk7
     have hw8 : wok s p 7 n 0 l.length = false := by simp [wok]
     have HW := Lib.hid hw8
     clear hw8
     go_enter Tryz.func32, Tryz.ntmps32
     go_wp2
     go_ret
     exact ⟨ret_b (by rw [HE.out, HW.out]; rfl), by (repeat (with_reducible first | exact Below.refl _ _ | refine Below.setCell ?_ ?_ _ | refine Below.alloc ?_ ?_ _ | refine Below.drewN ?_ _ | refine Below.drew ?_)) <;> first | omega | (simp; omega) | (simp; done)⟩
    have hw8 : wok s p k n c l.length = true := by simp [wok]; omega
    have HW := Lib.hid hw8
    clear hw8
    by_cases e1 : k = 1
    ·subst e1
     have e2 : decide (p ≤ n) = false := decide_eq_false (by omega)
     clear hk1 hk7 hk8
     go_enter Tryz.func32, Tryz.ntmps32
     go_wp2_with fail
     go_quiet (fail)
     go_wp2_with fail
     refine (HA.out _ _ _ _ (by (repeat (with_reducible first | exact Below.refl _ _ | refine Below.setCell ?_ ?_ _ | refine Below.alloc ?_ ?_ _ | refine Below.drewN ?_ _ | refine Below.drew ?_)) <;> first | omega | (simp; omega) | (simp; done)) H4.out (by first | omega | (simp; omega) | (simp; done)) (by first | omega | (simp; omega) | (simp; done)) (fun j u hj => by
      have hj' : #[Value.slice a0 s.datas.length cap0, .slice a1 s.cons.length cap1][j]? = some u := by simpa using hj
      rw [← hj']
      exact (((Blk.new w _ _ _ rfl).alloc _).alloc _).cell j) ((Blk.new _ _ _ _ (by simp)).cell 0)).mono ?_
     rintro e w4 ⟨rfl, hb4⟩
     have hb5 : Below w.heap.size w w4 := by
      refine Below.trans ?_ (hb4.mono (by first | omega | (simp; omega) | (simp; done)))
      (repeat (with_reducible first | exact Below.refl _ _ | refine Below.setCell ?_ ?_ _ | refine Below.alloc ?_ ?_ _ | refine Below.drewN ?_ _ | refine Below.drew ?_)) <;> first | omega | (simp; omega) | (simp; done)
     cases B
     all_goals
      go_wp2
      go_ret
      exact ⟨ret_b (by rw [HE.out, HW.out]; rfl), hb5⟩
    have t1 : (k == 1) = false := by simpa using e1
    by_cases e7 : k = 7
    ·subst e7
     have e2 : (c == 0) = false := by simp; omega
     clear hk1 hk7 hk8
     go_enter Tryz.func32, Tryz.ntmps32
     go_wp2_with fail
     go_quiet (fail)
     go_wp2_with fail
     refine (HA.out _ _ _ _ (by (repeat (with_reducible first | exact Below.refl _ _ | refine Below.setCell ?_ ?_ _ | refine Below.alloc ?_ ?_ _ | refine Below.drewN ?_ _ | refine Below.drew ?_)) <;> first | omega | (simp; omega) | (simp; done)) H4.out (by first | omega | (simp; omega) | (simp; done)) (by first | omega | (simp; omega) | (simp; done)) (fun j u hj => by
      have hj' : #[Value.slice a0 s.datas.length cap0, .slice a1 s.cons.length cap1][j]? = some u := by simpa using hj
      rw [← hj']
      exact (((Blk.new w _ _ _ rfl).alloc _).alloc _).cell j) ((Blk.new _ _ _ _ (by simp)).cell 0)).mono ?_
     rintro e w4 ⟨rfl, hb4⟩
     have hb5 : Below w.heap.size w w4 := by
      refine Below.trans ?_ (hb4.mono (by first | omega | (simp; omega) | (simp; done)))
      (repeat (with_reducible first | exact Below.refl _ _ | refine Below.setCell ?_ ?_ _ | refine Below.alloc ?_ ?_ _ | refine Below.drewN ?_ _ | refine Below.drew ?_)) <;> first | omega | (simp; omega) | (simp; done)
     cases B
     all_goals
      go_wp2
      go_ret
      exact ⟨ret_b (by rw [HE.out, HW.out]; rfl), hb5⟩
    ·have t7 : (k == 7) = false := by simpa using e7
     clear hk1 hk7 hk8 e1 e7
     go_enter Tryz.func32, Tryz.ntmps32
     go_wp2_with fail
     go_quiet (fail)
     go_wp2_with fail
     refine (HA.out _ _ _ _ (by (repeat (with_reducible first | exact Below.refl _ _ | refine Below.setCell ?_ ?_ _ | refine Below.alloc ?_ ?_ _ | refine Below.drewN ?_ _ | refine Below.drew ?_)) <;> first | omega | (simp; omega) | (simp; done)) H4.out (by first | omega | (simp; omega) | (simp; done)) (by first | omega | (simp; omega) | (simp; done)) (fun j u hj => by
      have hj' : #[Value.slice a0 s.datas.length cap0, .slice a1 s.cons.length cap1][j]? = some u := by simpa using hj
      rw [← hj']
      exact (((Blk.new w _ _ _ rfl).alloc _).alloc _).cell j) ((Blk.new _ _ _ _ (by simp)).cell 0)).mono ?_
     rintro e w4 ⟨rfl, hb4⟩
     have hb5 : Below w.heap.size w w4 := by
      refine Below.trans ?_ (hb4.mono (by first | omega | (simp; omega) | (simp; done)))
      (repeat (with_reducible first | exact Below.refl _ _ | refine Below.setCell ?_ ?_ _ | refine Below.alloc ?_ ?_ _ | refine Below.drewN ?_ _ | refine Below.drew ?_)) <;> first | omega | (simp; omega) | (simp; done)
     cases B
     all_goals
      go_wp2
      go_ret
      exact ⟨ret_b (by rw [HE.out, HW.out]; rfl), hb5⟩
end Go.Proofs.YtdhodaefgliphaaGreatDoor
namespace Go.Proofs.YtdhodaefgliphaaGreatDoor
open Go.RowKit Go.Maps Go.WideMaps
theorem keyedS : Keyed Tryz.prog 9 := string_keyed Tryz.underlying9
theorem zeroI (w : World) : (zeroValue 3).run Tryz.prog w = .ok (.int .i64 0) w := by kernel_rfl
def i64d (z : Int) : DataW Unit := .lit (.int .i64 z)
def Names (D : DataW Unit) (seen : List (List UInt8)) : Prop := IsMap D ∧ ∀ s : List UInt8, D.atKey (.string s) (i64d 0) = i64d (seen.count s)
theorem Names.nil : Names (.map []) [] := ⟨⟨_, rfl⟩, fun _ => rfl⟩
theorem Names.put {D : DataW Unit} {seen : List (List UInt8)} (h : Names D seen) (s : List UInt8) : Names (D.put (.string s) (i64d (seen.count s + 1))) (s :: seen) := by
 refine ⟨by obtain ⟨es, rfl⟩ := h.1; exact ⟨_, rfl⟩, fun t => ?_⟩
 by_cases ht : t = s
 ·subst ht
  rw [atKey_put_same h.1 (by simp [WideAt.IsKeyLit])]
  simp
 ·rw [atKey_put_other (by simpa using ht), h.2 t]
  rw [List.count_cons_of_ne (by simpa using fun e => ht e.symm)]
theorem lit_eq {a b : Int} (h : (DataW.lit (.int .i64 a) : DataW Unit) = i64d b) : a = b := by
 unfold i64d at h
 injection h with h
 injection h
theorem names_step {D : DataW Unit} {seen : List (List UInt8)} {s : List UInt8} {N : Nat} (h : Names D seen) (hc : seen.count s = N) : Names (D.put (.string s) (i64d ((N : Int) + 1))) (s :: seen) := by
 have := h.put s
 rwa [hc] at this
noncomputable abbrev mapI : Value → Option (DataW Unit × List MemPlace) := plainElem Tryz.prog 3
set_option maxRecDepth 100000 in
set_option maxHeartbeats 1000000 in
theorem twice_any (s : ByteArray) (cb mb n : Nat) (D : DataW Unit) (seen : List (List UInt8)) (w : World) (hs : s.size ≤ maxLen) (hn : n ≤ 1000) (hsn : seen.length ≤ 1000) (hcb : cb < w.heap.size) (hne : cb ≠ mb) (hc : w.cell? ⟨cb, 0, none⟩ = some (.map (some mb)))
  (hown : w.ownsMap Tryz.prog 9 mapI mb n D) (hN : Names D seen) :
  Calls Tryz.prog 30 #[.string s, .pointer (some ⟨cb, 0, none⟩)] w fun e w' => e = .returned (.bool (decide (0 < seen.count s.data.toList))) ∧ (∃ D', w'.ownsMap Tryz.prog 9 mapI mb (n + 1) D' ∧ Names D' (s.data.toList :: seen)) ∧ w.grownBy w' (some mb) := by
 have hkey : keyOf Tryz.prog 9 (.string s) = some (.string s.data.toList) := keyOf_string_mk Tryz.underlying9 hs
 have hcnt : seen.count s.data.toList ≤ 1000 := Nat.le_trans List.count_le_length hsn
 have HN := Lib.hid hN
 have HK := Lib.hid hkey
 clear hN hkey
 have tok1 : True := trivial
 obtain ⟨N, hNc⟩ : ∃ N, seen.count s.data.toList = N := ⟨_, rfl⟩
 rw [hNc] at hcnt ⊢
 have HC := Lib.hid hNc
 clear hNc
 go_enter Tryz.func30, Tryz.ntmps30
 go_wp2_with (first
  | (at_lookup
     have _t := tok1
     refine wpList_lookup_own_int _ rfl _ _ 83 rfl 9 3 .i64 keyedS Tryz.underlying83 Tryz.underlying3 (zeroI _) mb n D rfl hown _ _ rfl HK.out ?_
     intro c hat hwc
     obtain rfl : c = (N : Int) := lit_eq (hat.symm.trans ((HN.out.2 s.data.toList).trans (by rw [HC.out])))
     clear hat hwc tok1)
  | (at_mapUpdate
     refine wpList_mapUpdate_own _ rfl _ _ _ 83 rfl 9 3 keyedS Tryz.underlying83 _ mb n _ rfl hown (by unfold maxLen; omega) _ _ _ rfl rfl HK.out _ [] (plainElem_int Tryz.underlying3 (WalkArith.wf_i64 (by omega))) ?_
     intro w1 hown1 hgrow1
     have hc1 : w1.cell? ⟨cb, 0, none⟩ = some (.map (some mb)) := (World.cell?_of_block (hgrow1.block cb hcb (by simpa using hne))).trans hc
     have HN1 : Hid (Names (D.put (.string s.data.toList) (i64d ((N : Int) + 1))) (s.data.toList :: seen)) := names_step HN.out HC.out
     clear hown hc)
  | (at_lookup
     refine wpList_lookup_own_int _ rfl _ _ 83 rfl 9 3 .i64 keyedS Tryz.underlying83 Tryz.underlying3 (zeroI _) mb (n + 1) _ rfl hown1 _ _ rfl HK.out ?_
     intro c hat hwc
     obtain rfl : c = (N : Int) + 1 := lit_eq (hat.symm.trans ((HN1.out.2 s.data.toList).trans (by rw [List.count_cons_self, HC.out]; rfl)))
     clear hat hwc))
 go_wp2
 go_ret
 exact ⟨ret_b (by rw [Bool.eq_iff_iff]; simp; try omega), ⟨_, hown1, HN1.out⟩, hgrow1⟩
end Go.Proofs.YtdhodaefgliphaaGreatDoor
namespace Go.Proofs.YtdhodaefgliphaaGreatDoor
open Go.RowKit
namespace Sig
def ofs (s : Sig) (j : Nat) : Nat → List Int
 | 0 => []
 | i + 1 => match s.cons[i]? with
   | some c => if c.data = (j : Int) then ofs s j i ++ [(i : Int)] else ofs s j i
   | none => ofs s j i
def cname (c : Con) : List UInt8 := 99 :: c.name.data.toList
def dname (d : Data) : List UInt8 := 100 :: d.name.data.toList
def cseen (s : Sig) : Nat → List (List UInt8)
 | 0 => []
 | i + 1 => match s.cons[i]? with
   | some c => cname c :: cseen s i
   | none => cseen s i
def dseen (s : Sig) : Nat → List (List UInt8)
 | 0 => cseen s s.cons.length
 | j + 1 => match s.datas[j]? with
   | some d => dname d :: dseen s j
   | none => dseen s j
def fieldOk (s : Sig) (c : Con) (k : Nat) : Bool :=
 match c.mults[k]?, c.fields[k]? with
 | some m, some t => decide (1 ≤ m ∧ m ≤ 3) && (decide (tyMay t = 0) && t.whole s (parOf s c.data.toNat))
 | _, _ => false
def conHead (s : Sig) (c : Con) : Bool := decide (0 ≤ c.data ∧ c.data < s.datas.length ∧ c.fields.length ≤ 8 ∧ c.mults.length = c.fields.length)
def conOk (s : Sig) (i : Nat) : Bool :=
 match s.cons[i]? with
 | some c => conHead s c && (decide ((cseen s i).count (cname c) = 0) && (List.range c.fields.length).all (fieldOk s c))
 | none => false
def dataOk (s : Sig) (j : Nat) : Bool :=
 match s.datas[j]? with
 | some d => decide (0 ≤ d.params ∧ d.params ≤ 4) && (decide (ofs s j s.cons.length ≠ []) && (decide (ofs s j s.cons.length = d.cons) && decide ((dseen s j).count (dname d) = 0)))
 | none => false
def may (s : Sig) : Bool := decide (s.datas.length ≤ 40 ∧ s.cons.length ≤ 100) && ((List.range s.cons.length).all (conOk s) && (List.range s.datas.length).all (dataOk s))
theorem cseen_len (s : Sig) : ∀ i, (cseen s i).length ≤ i
 | 0 => Nat.le_refl _
 | i + 1 => by have := cseen_len s i; unfold cseen; split <;> simp <;> omega
theorem dseen_len (s : Sig) : ∀ j, (dseen s j).length ≤ s.cons.length + j
 | 0 => cseen_len s _
 | j + 1 => by have := dseen_len s j; unfold dseen; split <;> simp <;> omega
theorem ofs_len (s : Sig) (j : Nat) : ∀ i, (ofs s j i).length ≤ i
 | 0 => Nat.le_refl _
 | i + 1 => by have := ofs_len s j i; unfold ofs; split <;> (try split) <;> simp <;> omega
theorem may_no (s : Sig) (h : ¬(s.datas.length ≤ 40 ∧ s.cons.length ≤ 100)) : may s = false := by simp [may, h]
theorem may_con (s : Sig) (i : Nat) (h : i < s.cons.length) (hc : conOk s i = false) : may s = false := by
 have : (List.range s.cons.length).all (conOk s) = false := by
  rw [List.all_eq_false]; exact ⟨i, List.mem_range.2 h, by simp [hc]⟩
 simp [may, this]
theorem may_data (s : Sig) (i : Nat) (h : i < s.datas.length) (hc : dataOk s i = false) : may s = false := by
 have : (List.range s.datas.length).all (dataOk s) = false := by
  rw [List.all_eq_false]; exact ⟨i, List.mem_range.2 h, by simp [hc]⟩
 simp [may, this]
theorem may_yes (s : Sig) (h : s.datas.length ≤ 40 ∧ s.cons.length ≤ 100) (hc : ∀ i, i < s.cons.length → conOk s i = true) (hd : ∀ i, i < s.datas.length → dataOk s i = true) : may s = true := by
 simp only [may, Bool.and_eq_true, decide_eq_true_eq]
 exact ⟨h, List.all_eq_true.2 fun i hi => hc i (List.mem_range.1 hi), List.all_eq_true.2 fun i hi => hd i (List.mem_range.1 hi)⟩
def mayE (s : Sig) : Int := if may s then 0 else 2
theorem mayE_no {s : Sig} (h : may s = false) : mayE s = 2 := by simp [mayE, h]
theorem mayE_yes {s : Sig} (h : may s = true) : mayE s = 0 := by simp [mayE, h]
end Sig
def OfInv (w : World) (ob base nd : Nat) (F : Nat → List Int) : Prop :=
 ∃ vals : Array Value, vals.size = nd ∧ Blk w ob vals 53 ∧ (∀ j (h : j < vals.size), w.ownsRow base 3 1 vals[j] (F j).length (i64s (F j))) ∧
   ∀ i j (hi : i < vals.size) (hj : j < vals.size) g, i ≠ j → vals[i].ownBlock = some g → vals[j].ownBlock ≠ some g
theorem OfInv.keep {w w' : World} {ob base nd : Nat} {F : Nat → List Int} (h : OfInv w ob base nd F) (hk : ∀ k, k < w.heap.size → (k = ob ∨ base ≤ k) → w'.heap[k]? = w.heap[k]?) : OfInv w' ob base nd F := by
 obtain ⟨vals, h1, h2, h3, h4⟩ := h
 refine ⟨vals, h1, h2.of (hk ob h2.lt (.inl rfl)), fun j hj => own_keep (h3 j hj) fun g hg => ?_, h4⟩
 have := (h3 j hj).lt g hg
 exact hk g this.2 (.inr this.1)
theorem OfInv.below {w w' : World} {ob base nd : Nat} {F : Nat → List Int} (h : OfInv w ob base nd F) (hb : Below w.heap.size w w') : OfInv w' ob base nd F := h.keep fun k hk _ => hb.block k hk
theorem OfInv.grown {w w' : World} {ob base nd mb : Nat} {F : Nat → List Int} (h : OfInv w ob base nd F) (hb : w.grownBy w' (some mb)) (h1 : mb ≠ ob) (h2 : mb < base) : OfInv w' ob base nd F :=
 h.keep fun k hk hc => hb.block k hk (by intro e; injection e with e; omega)
theorem OfInv.lt {w : World} {ob base nd : Nat} {F : Nat → List Int} (h : OfInv w ob base nd F) : ob < w.heap.size := by obtain ⟨_, _, h2, _⟩ := h; exact h2.lt
theorem OfInv.step {w w1 : World} {ob base nd d : Nat} {F : Nat → List Int} {vals : Array Value} {v' : Value} {z : Int} (hs : vals.size = nd) (hd : d < vals.size) (hB : Blk w ob vals 53)
  (h3 : ∀ j (h : j < vals.size), w.ownsRow base 3 1 vals[j] (F j).length (i64s (F j))) (h4 : ∀ i j (hi : i < vals.size) (hj : j < vals.size) g, i ≠ j → vals[i].ownBlock = some g → vals[j].ownBlock ≠ some g)
  (hob : ob < base) (hown : w1.ownsRow base 3 1 v' ((F d).length + 1) (i64s (F d) ++ [.int .i64 z])) (hg : w.grownBy w1 (vals[d]'hd).ownBlock) (hat : v'.ownBlock = (vals[d]'hd).ownBlock ∨ v'.ownBlock = some w.heap.size) :
  OfInv (w1.setCell ⟨ob, d, none⟩ v') ob base nd (fun j => if j = d then F d ++ [z] else F j) := by
 have hne : ∀ g, (vals[d]'hd).ownBlock = some g → g ≠ ob := fun g hg' => by have := ((h3 d hd).lt g hg').1; omega
 have hB1 : Blk w1 ob vals 53 := hB.of (hg.block ob hB.lt (by intro e; exact hne ob e.symm rfl))
 refine ⟨vals.setIfInBounds d v', by simpa using hs, hB1.set d v', fun j hj => ?_, fun i j hi hj g hij => ?_⟩
 ·have hj' : j < vals.size := by simpa using hj
  have kset : ∀ {x : Value} {n : Nat} {xs : List Value}, w1.ownsRow base 3 1 x n xs → (w1.setCell ⟨ob, d, none⟩ v').ownsRow base 3 1 x n xs := fun h => ownsRow_setCell_below h hob v'
  by_cases e : j = d
  ·subst e
   simp only [if_true, Array.getElem_setIfInBounds_self]
   have : (F j ++ [z]).length = (F j).length + 1 := by simp
   rw [this]
   have e2 : i64s (F j ++ [z]) = i64s (F j) ++ [.int .i64 z] := by simp [i64s]
   rw [e2]
   exact kset hown
  ·simp only [if_neg e]
   rw [Array.getElem_setIfInBounds_ne hj' (Ne.symm e)]
   refine kset (own_keep (h3 j hj') fun g hg' => ?_)
   have hlt := (h3 j hj').lt g hg'
   refine hg.block g hlt.2 fun e' => ?_
   exact h4 d j hd hj' g (Ne.symm e) e'.symm hg'
 ·have hi' : i < vals.size := by simpa using hi
  have hj' : j < vals.size := by simpa using hj
  intro h1 h2
  by_cases ei : i = d
  ·subst ei
   rw [Array.getElem_setIfInBounds_self] at h1
   rw [Array.getElem_setIfInBounds_ne hj' hij] at h2
   rcases hat with h | h
   ·rw [h] at h1; exact h4 i j hi' hj' g hij h1 h2
   ·rw [h] at h1; injection h1 with h1; have := ((h3 j hj').lt g h2).2; omega
  ·by_cases ej : j = d
   ·subst ej
    rw [Array.getElem_setIfInBounds_self] at h2
    rw [Array.getElem_setIfInBounds_ne hi' (Ne.symm ei)] at h1
    rcases hat with h | h
    ·rw [h] at h2; exact h4 i j hi' hj' g hij h1 h2
    ·rw [h] at h2; injection h2 with h2; have := ((h3 i hi').lt g h1).2; omega
   ·rw [Array.getElem_setIfInBounds_ne hi' (Ne.symm ei)] at h1
    rw [Array.getElem_setIfInBounds_ne hj' (Ne.symm ej)] at h2
    exact h4 i j hi' hj' g hij h1 h2
def zeroRows (nd : Nat) : Array Value := Array.replicate nd (.slice none 0 0)
theorem OfInv.start {w : World} {ob base nd : Nat} (h : Blk w ob (zeroRows nd) 53) : OfInv w ob base nd (fun _ => []) := by
 refine ⟨zeroRows nd, by simp [zeroRows], h, fun j hj => ?_, fun i j hi hj g _ h1 => ?_⟩
 ·simp only [zeroRows, Array.getElem_replicate]
  exact ⟨by simp [i64s], .inl ⟨rfl, rfl⟩⟩
 ·simp [zeroRows, Value.ownBlock] at h1
theorem infoIs : (Tryz.prog.info? 53).map (fun i => (i.zero, i.size, i.bytes)) = some (some (.slice none 0 0), 1, 24) := by kernel_rfl
theorem infoI : (Tryz.prog.info? 3).map (fun i => (i.zero, i.size, i.bytes)) = some (some (.int .i64 0), 1, 8) := by kernel_rfl
theorem make_rows (nd : Nat) (h : nd ≤ 1048576) (w : World) : Sem.run Tryz.prog (Instr.makeSlice 82 (.int .i64 nd) (.int .i64 nd)) w = .ok (.slice (some ⟨w.heap.size, 0, none⟩) nd nd) (w.alloc (.cells (zeroRows nd) 53)) := by
 obtain ⟨i0, hi0, hz0, hz1, hz2⟩ := info_parts infoIs
 have := run_make (P := Tryz.prog) w 82 53 i0 _ Tryz.underlying82 hi0 hz0 .i64 .i64 nd nd (by omega) (Int.le_refl _) (by rw [hz2]; omega) (by omega)
 rw [this, hz1]
 have e : madeCells (Value.slice none 0 0).cells ((nd : Int).toNat * 1) = zeroRows nd := by
  apply Array.ext
  ·simp [madeCells, zeroRows]
  ·intro i h1 h2
   simp [madeCells, zeroRows, Value.cells, Nat.mod_one]
 rw [e]
 simp
structure Step11 (w w2 wx : World) (V : Value) (nd : Nat) (F : Nat → List Int) : Prop where
 bel : Below w.heap.size w2 wx
 keep : ∀ k, k < w2.heap.size → k ≠ w.heap.size + 1 → some k ≠ V.ownBlock → wx.heap[k]? = w2.heap[k]?
 of_ : OfInv wx (w.heap.size + 1) (w.heap.size + 4) nd F
theorem ofs_step (s : Sig) (i m : Nat) (c : Con) (hci : s.cons[i]? = some c) (hcd : c.data = (m : Int)) : (fun j => if j = m then s.ofs m i ++ [(i : Int)] else s.ofs j i) = fun j => s.ofs j (i + 1) := by
 funext j
 simp only [Sig.ofs, hci, hcd]
 by_cases e : j = m
 ·subst e; simp
 ·have : ¬((m : Int) = (j : Int)) := by omega
  simp [e, this]
theorem step11_of (s : Sig) (w w2 w1 : World) (vals : Array Value) (V : Value) (m i nd gg cap : Nat) (o : Obj) (c : Con) (hs : vals.size = nd) (hm : m < vals.size) (hV : vals[m] = V) (v2 : Blk w2 (w.heap.size + 1) vals 53)
  (v3 : ∀ j (h : j < vals.size), w2.ownsRow (w.heap.size + 4) 3 1 vals[j] (s.ofs j i).length (i64s (s.ofs j i))) (v4 : ∀ i j (hi : i < vals.size) (hj : j < vals.size) g, i ≠ j → vals[i].ownBlock = some g → vals[j].ownBlock ≠ some g)
  (hci : s.cons[i]? = some c) (hcd : c.data = (m : Int)) (hlt : w.heap.size + 1 + 1 + 1 < w2.heap.size)
  (hown1 : w1.ownsRow (w.heap.size + 4) 3 1 (.slice (some ⟨gg, 0, none⟩) ((s.ofs m i).length + 1) cap) ((s.ofs m i).length + 1) (i64s (s.ofs m i) ++ [.int .i64 i]))
  (hgrow : ((w2.alloc o).drew).grownBy w1 V.ownBlock) (hat : V.ownBlock = some gg ∨ gg = w2.heap.size + 1) :
  Step11 w w2 (w1.setCell ⟨w.heap.size + 1, m, none⟩ (.slice (some ⟨gg, 0, none⟩) ((s.ofs m i).length + 1) cap)) V nd (fun j => s.ofs j (i + 1)) := by
 have hb1 : Below w2.heap.size w2 ((w2.alloc o).drew) := ((Below.refl _ _).alloc (Nat.le_refl _) _).drew
 have hVl : ∀ k, V.ownBlock = some k → w.heap.size + 4 ≤ k := fun k hk => ((v3 m hm).lt k (by rw [hV]; exact hk)).1
 subst hV
 refine ⟨?_, fun k hk hne hnV => ?_, ?_⟩
 ·refine ((hb1.mono (by omega)).grown hgrow (by have := hb1.size; omega) (fun k hk => by have := hVl k hk; omega)).setCell (by simp) _
 ·rw [Below.heap_setCell _ _ _ _ (by simpa using hne), hgrow.block k (by have := hb1.size; omega) hnV, hb1.block k hk]
 ·rw [← ofs_step s i m c hci hcd]
  have hv2 := v2.below hb1 v2.lt
  refine OfInv.step (w := (w2.alloc o).drew) hs hm hv2 (fun j hj => own_below (v3 j hj) hb1 (Nat.le_refl _)) v4 (by omega) hown1 hgrow ?_
  simp only [Value.ownBlock]
  rcases hat with h | h
  ·exact .inl h.symm
  ·right
   have : ((w2.alloc o).drew).heap.size = w2.heap.size + 1 := by show (w2.heap.push o).size = _; simp
   rw [this, h]
theorem ownsMap_of {w w' : World} {P : Program} {k : TypeId} {R : Value → Option (DataW Unit × List MemPlace)} {b n : Nat} {D : DataW Unit} (h : w.ownsMap P k R b n D) (hb : w'.heap[b]? = w.heap[b]?) : w'.ownsMap P k R b n D := by
 obtain ⟨es, cl, h1, h2⟩ := h
 exact ⟨es, cl, hb.trans h1, h2⟩
end Go.Proofs.YtdhodaefgliphaaGreatDoor
