/- Contracts: ty.May. -/
import Derived.Test.YtpndkjjkdeingaaGreatDoorTyB
import Derived.Laws.EntriesVeiled
set_option linter.unusedVariables false
set_option linter.unusedSimpArgs false
namespace Go.Proofs.YtpndkjjkdeingaaGreatDoor
open Go.RowKit

namespace Ty
mutual
def ok : Ty → Bool
  | .mk k n v c l => isT k n v c l.length && okl l
def okl : List Ty → Bool
  | [] => true
  | t :: r => t.ok && okl r
end
theorem okl_any : ∀ l : List Ty, (l.any fun x => !x.ok) = !okl l
  | [] => rfl
  | t :: r => by simp only [List.any_cons, okl, okl_any r]; cases t.ok <;> simp
theorem ok_eq (t : Ty) : t.ok = (isT t.kind t.n t.v t.c t.l.length && !(t.l.any fun x => !x.ok)) := by
  cases t; simp only [ok, kind, n, v, c, l, okl_any, Bool.not_not]
end Ty

def mayF (cb : Nat) : Value := .func (.func 40) #[] #[.pointer (some ⟨cb, 0, none⟩)]
theorem enters64 : Enters Tryz.prog 40 := enters Tryz.func40 (by kernel_rfl) rfl
theorem enters67 : Enters Tryz.prog 43 := enters Tryz.func43 (by kernel_rfl) rfl

set_option maxHeartbeats 1000000 in
theorem may11_any (t : Ty) (us : List Value) (cb : Nat) (b : Bool) (w : World) (hus : Rds w w.heap.size us t.d) (hcb : cb < w.heap.size) (hc : w.cell? ⟨cb, 0, none⟩ = some (mayF cb))
    (h64 : ∀ W, Below w.heap.size w W → Calls Tryz.prog 40 #[.agg us.toArray, .pointer (some ⟨cb, 0, none⟩)] W fun e w' => e = .returned (.bool b) ∧ Below W.heap.size W w') :
    Calls Tryz.prog 43 #[.agg us.toArray, .pointer (some ⟨cb, 0, none⟩)] w fun e w' => e = .returned (.bool (!b)) ∧ Below w.heap.size w w' := by
  have H := Lib.hid h64
  clear h64
  have hin := enters64
  unfold Enters at hin
  unfold mayF at hc
  obtain ⟨v4, rfl, h4, _⟩ := Ty.cells hus
  obtain ⟨a, cap, rfl⟩ := h4.slice_inv
  clear hus h4
  go_enter Tryz.func43, Tryz.ntmps43
  go_wp2_with fail
  refine (H.out _ ((Below.refl _ _).alloc (Nat.le_refl _) _)).mono ?_
  rintro e w2 ⟨rfl, hb2⟩
  cases b
  all_goals
    go_wp2
    go_ret
    exact ⟨rfl, ((Below.refl _ _).alloc (Nat.le_refl _) _).trans (hb2.mono (by simp))⟩

set_option maxHeartbeats 1000000 in
theorem may1_any : ∀ (N : Nat) (t : Ty) (us : List Value) (cb : Nat) (w : World), t.size ≤ N → t.size ≤ 1048576 → Rds w w.heap.size us t.d → cb < w.heap.size → w.cell? ⟨cb, 0, none⟩ = some (mayF cb) →
    Calls Tryz.prog 40 #[.agg us.toArray, .pointer (some ⟨cb, 0, none⟩)] w fun e w' => e = .returned (.bool t.ok) ∧ Below w.heap.size w w' := by
  intro N
  induction N with
  | zero => intro t us cb w h; have := size_pos t; omega
  | succ N ih =>
    intro t us cb w hN hs hus hcb hc
    obtain ⟨v4, rfl, h4, _⟩ := Ty.cells hus
    have hsz := size_eq t
    have hlen : t.l.length ≤ 1048576 := by have := sizes_len t.l; omega
    have hall : ∀ (W : World), Below w.heap.size w W → Calls Tryz.prog 42 #[v4, .func (.func 43) #[] #[.pointer (some ⟨cb, 0, none⟩)]] W fun e w' => e = .returned (.bool (t.l.any fun x => !x.ok)) ∧ Below W.heap.size W w' := by
      intro W hW
      have hcW : W.cell? ⟨cb, 0, none⟩ = some (mayF cb) := (hW.cell (p := ⟨cb, 0, none⟩) hcb).trans hc
      have hcbW : cb < W.heap.size := Nat.lt_of_lt_of_le hcb hW.size
      refine containsTy t.l v4 43 #[.pointer (some ⟨cb, 0, none⟩)] (fun x => !x.ok) W hlen enters67 ((h4.keep hW).mono hW.size) ?_
      intro i hi W2 us2 hW2 hus2
      have hsub := sizes_get t.l i hi
      refine may11_any (t.l[i]) us2 cb _ W2 ((hus2.keep hW2).mono hW2.size) (Nat.lt_of_lt_of_le hcbW hW2.size) ((hW2.cell (p := ⟨cb, 0, none⟩) hcbW).trans hcW) fun W3 hW3 => ?_
      have hW23 := hW2.trans (hW3.mono hW2.size)
      exact ih (t.l[i]) us2 cb W3 (by omega) (by omega) ((hus2.keep hW23).mono hW23.size) (Nat.lt_of_lt_of_le hcbW hW23.size) ((hW23.cell (p := ⟨cb, 0, none⟩) hcbW).trans hcW)
    have HA := Lib.hid hall
    obtain ⟨a, cap, rfl⟩ := h4.slice_inv
    have HE := Lib.hid (Ty.ok_eq t)
    obtain ⟨B, hB⟩ : ∃ B, (t.l.any fun x => !x.ok) = B := ⟨_, rfl⟩
    rw [hB] at HA HE
    clear hall hsz ih hc hus h4 hB
    go_enter Tryz.func40, Tryz.ntmps40
    go_wp2_with fail
    refine (tyis_any _ _ _ _ _ _ _ hlen _).mono ?_
    rintro e w2 ⟨rfl, hb2⟩
    have hb3 := ((Below.refl w.heap.size w).alloc (Nat.le_refl _) _).trans (hb2.mono (by simp))
    obtain ⟨I, hI⟩ : ∃ I, isT t.kind t.n t.v t.c t.l.length = I := ⟨_, rfl⟩
    rw [hI] at HE ⊢
    clear hI
    have c3 : w2.cell? ⟨w.heap.size, 4, none⟩ = some (.slice a t.l.length cap) := by
      rw [hb2.cell (p := ⟨w.heap.size, 4, none⟩) (by simp)]; exact (Blk.new w _ _ _ rfl).cell 4
    cases I
    · go_wp2
      go_ret
      exact ⟨ret_b (by rw [HE.out]; rfl), hb3⟩
    · go_wp2_with fail
      refine (HA.out _ hb3).mono ?_
      rintro e w4 ⟨rfl, hb4⟩
      cases B
      all_goals
        go_wp2
        go_ret
        exact ⟨ret_b (by rw [HE.out]; rfl), hb3.trans (hb4.mono hb3.size)⟩

def tyMay (t : Ty) : Int := if 300 < t.size then 3 else if t.ok then 0 else 2
set_option maxHeartbeats 1000000 in
theorem tymay_any (t : Ty) (us : List Value) (w : World) (hs : t.size ≤ 1048576) (hus : Rds w w.heap.size us t.d) :
    Calls Tryz.prog 22 #[.agg us.toArray] w fun e w' => e = .returned (.int .i64 (tyMay t)) ∧ Below w.heap.size w w' := by
  have HS := Lib.hid (fun (W : World) (hW : Below w.heap.size w W) => size_any t.size t us W (Nat.le_refl _) hs ((hus.keep hW).mono hW.size))
  have HM := Lib.hid (fun (W : World) (hW : Below w.heap.size w W) (cb : Nat) (h1 : cb < W.heap.size) (h2 : W.cell? ⟨cb, 0, none⟩ = some (mayF cb)) => may1_any t.size t us cb W (Nat.le_refl _) hs ((hus.keep hW).mono hW.size) h1 h2)
  have hin := enters64
  unfold Enters at hin
  obtain ⟨v4, rfl, h4, _⟩ := Ty.cells hus
  obtain ⟨a, cap, rfl⟩ := h4.slice_inv
  obtain ⟨OK, hOK⟩ : ∃ B, t.ok = B := ⟨_, rfl⟩
  have HOK := Lib.hid hOK
  rw [hOK] at HM
  clear hus h4 hOK
  go_enter Tryz.func22, Tryz.ntmps22
  go_wp2_with fail
  refine (HS.out _ ((Below.refl _ _).alloc (Nat.le_refl _) _)).mono ?_
  rintro e w2 ⟨rfl, hb2⟩
  have hb3 := ((Below.refl w.heap.size w).alloc (Nat.le_refl _) _).trans (hb2.mono (by simp))
  have hs3 : w.heap.size < w2.heap.size := by have := hb2.size; simp at this; omega
  by_cases h300 : 300 < t.size
  · have e1 : decide ((300 : Int) < (t.size : Int)) = true := decide_eq_true (by omega)
    go_wp2
    go_ret
    exact ⟨ret_i (by simp [tyMay, h300]), hb3⟩
  · have e1 : decide ((300 : Int) < (t.size : Int)) = false := decide_eq_false (by omega)
    have d0 := (hb2.cell (p := ⟨w.heap.size, 0, none⟩) (by simp)).trans ((Blk.new w _ _ _ rfl).cell 0)
    have d1 := (hb2.cell (p := ⟨w.heap.size, 1, none⟩) (by simp)).trans ((Blk.new w _ _ _ rfl).cell 1)
    have d2 := (hb2.cell (p := ⟨w.heap.size, 2, none⟩) (by simp)).trans ((Blk.new w _ _ _ rfl).cell 2)
    have d3 := (hb2.cell (p := ⟨w.heap.size, 3, none⟩) (by simp)).trans ((Blk.new w _ _ _ rfl).cell 3)
    have d4 := (hb2.cell (p := ⟨w.heap.size, 4, none⟩) (by simp)).trans ((Blk.new w _ _ _ rfl).cell 4)
    simp only [List.getElem?_toArray, List.getElem?_cons_zero, List.getElem?_cons_succ] at d0 d1 d2 d3 d4
    go_wp2_with fail
    refine (HM.out _ (by (repeat (with_reducible first | exact hb3 | refine Below.setCell ?_ ?_ _ | refine Below.alloc ?_ ?_ _ | refine Below.drew ?_)) <;> first | omega | (simp; omega) | (simp; done)) w2.heap.size (by simp) ((Blk.new w2 _ _ _ rfl).cell 0)).mono ?_
    rintro e w4 ⟨rfl, hb4⟩
    have hb5 : Below w.heap.size w w4 := by
      refine Below.trans ?_ (hb4.mono (by simp; omega))
      (repeat (with_reducible first | exact hb3 | refine Below.setCell ?_ ?_ _ | refine Below.alloc ?_ ?_ _ | refine Below.drew ?_)) <;> first | omega | (simp; omega) | (simp; done)
    cases OK
    all_goals
      go_wp2
      go_ret
      exact ⟨ret_i (by simp [tyMay, h300, HOK.out]), hb5⟩
end Go.Proofs.YtpndkjjkdeingaaGreatDoor
