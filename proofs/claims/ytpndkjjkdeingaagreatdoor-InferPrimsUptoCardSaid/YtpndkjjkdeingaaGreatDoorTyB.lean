/- Contracts: ty.Size. -/
import Derived.Test.YtpndkjjkdeingaaGreatDoorTyA
import Derived.Test.YtpndkjjkdeingaaGreatDoorIdx
set_option linter.unusedVariables false
set_option linter.unusedSimpArgs false
namespace Go.Proofs.YtpndkjjkdeingaaGreatDoor
open Go.RowKit

theorem sizes_drop (l : List Ty) (k : Nat) (h : k < l.length) : Ty.size.sizes (l.drop k) = l[k].size + Ty.size.sizes (l.drop (k + 1)) := by
  rw [List.drop_eq_getElem_cons h, Ty.size.sizes]
theorem sizes_end (l : List Ty) (k : Nat) (h : l.length ≤ k) : Ty.size.sizes (l.drop k) = 0 := by rw [List.drop_of_length_le h]; rfl
theorem size_eq (t : Ty) : t.size = 1 + Ty.size.sizes t.l := by cases t; simp [Ty.size, Ty.l]
theorem size_pos (t : Ty) : 1 ≤ t.size := by rw [size_eq]; omega

theorem sizes_len : ∀ l : List Ty, l.length ≤ Ty.size.sizes l
  | [] => by simp
  | t :: l => by have := sizes_len l; have := size_pos t; simp only [Ty.size.sizes, List.length_cons]; omega
theorem sizes_get (l : List Ty) (k : Nat) (h : k < l.length) : l[k].size ≤ Ty.size.sizes l := Ty.size_mem (List.getElem_mem h)

set_option maxHeartbeats 1000000 in
theorem size_any : ∀ (N : Nat) (t : Ty) (us : List Value) (w : World), t.size ≤ N → t.size ≤ 1048576 → Rds w w.heap.size us t.d →
    Calls Tryz.prog 25 #[.agg us.toArray] w fun e w' => e = .returned (.int .i64 t.size) ∧ Below w.heap.size w w' := by
  intro N
  induction N with
  | zero => intro t us w h; have := size_pos t; omega
  | succ N ih =>
    intro t us w hN hs hus
    have IH := Lib.hid ih
    clear ih
    obtain ⟨v4, rfl, h4, w0, w1, w2, w3⟩ := Ty.cells hus
    have hsz := size_eq t
    obtain ⟨l, hl⟩ : ∃ l, t.l = l := ⟨_, rfl⟩
    rw [hl] at h4 hsz
    have HL := Lib.hid hl
    have hlen : l.length ≤ 1048576 := by have := sizes_len l; omega
    obtain ⟨a, cap, rfl⟩ := h4.slice_inv
    have HS := Lib.hid hsz
    clear hsz hl hus
    go_enter Tryz.func25, Tryz.ntmps25
    go_wp2
    obtain ⟨w0', hw0⟩ : ∃ W, w.alloc (.cells #[.int .u8 t.kind, .int .i64 t.n, .int .i64 t.v, .int .u8 t.c, .slice a l.length cap] 39) = W := ⟨_, rfl⟩
    go_loopw [3, 9] (fun u3 u9 wr => ∃ k acc : Nat, k ≤ l.length ∧ u9 = .int .i64 k ∧ u3 = .int .i64 acc ∧ acc ≤ t.size ∧ Hid (acc + Ty.size.sizes (l.drop k) = t.size) ∧ Below w.heap.size w wr) (fun _ u _ => l.length - (intOf u).toNat)
    case atStart => exact ⟨0, 1, Nat.zero_le _, rfl, rfl, size_pos t, HS.out.symm, (Below.refl _ _).alloc (Nat.le_refl _) _⟩
    case round =>
      obtain ⟨k, acc, hk, rfl, rfl, hacc, HE, hbel⟩ := hrel
      have hsz0 := hbel.size
      by_cases hlt : k < l.length
      · obtain ⟨b, off, cap', us, hv, hb, hc, hcell, hus⟩ := h4.elem Ty.d_len rfl k hlt (by omega)
        injection hv with ha hn' hcap
        subst ha hcap
        have hsub : l[k].size + Ty.size.sizes (l.drop (k + 1)) + acc = t.size := by rw [← HE.out, sizes_drop l k hlt]; omega
        have hN' : l[k].size ≤ N ∧ acc + l[k].size ≤ t.size := ⟨by have := sizes_get l k hlt; have := HS.out; omega, by omega⟩
        have HS' := Lib.hid hsub
        clear hsub
        obtain ⟨v4', hus', h4', x0, x1, x2, x3⟩ := Ty.cells hus
        have HC := Lib.hid (fun (W : World) (hB : Below w.heap.size w W) => IH.out l[k] us W hN'.1 (by omega) ((hus.keep hB).mono hB.size))
        obtain ⟨a2, cap2, rfl⟩ := h4'.slice_inv
        subst hus'
        have c0 := (hbel.cell (p := ⟨b, off + k * 5, none⟩) hb).trans (hcell 0 _ rfl)
        have c1 := (hbel.cell (p := ⟨b, off + k * 5 + 1, none⟩) hb).trans (hcell 1 _ rfl)
        have c2 := (hbel.cell (p := ⟨b, off + k * 5 + 2, none⟩) hb).trans (hcell 2 _ rfl)
        have c3 := (hbel.cell (p := ⟨b, off + k * 5 + 3, none⟩) hb).trans (hcell 3 _ rfl)
        have c4 := (hbel.cell (p := ⟨b, off + k * 5 + 4, none⟩) hb).trans (hcell 4 _ rfl)
        clear hcell
        go_wp2_with fail
        refine (HC.out _ (by (repeat (with_reducible first | exact hbel | refine Below.setCell ?_ ?_ _ | refine Below.alloc ?_ ?_ _ | refine Below.drew ?_)) <;> first | omega | (simp; omega) | (simp; done))).mono ?_
        rintro e w2 ⟨rfl, hb2⟩
        have hs2 := hb2.size
        have hb3 : Below w.heap.size w w2 := by
          refine Below.trans ?_ (hb2.mono (by simp; omega))
          (repeat (with_reducible first | exact hbel | refine Below.setCell ?_ ?_ _ | refine Below.alloc ?_ ?_ _ | refine Below.drew ?_)) <;> first | omega | (simp; omega) | (simp; done)
        go_wp2
        go_roundw
        case rel => exact ⟨k + 1, acc + l[k].size, hlt, by go_num, by go_num, hN'.2, by show _ = _; have := HS'.out; omega, hb3⟩
        case measure => simp [intOf]; omega
      · go_wp2
        go_ret
        exact ⟨ret_i (by have := HE.out; rw [sizes_end l k (by omega)] at this; omega), hbel⟩
end Go.Proofs.YtpndkjjkdeingaaGreatDoor
