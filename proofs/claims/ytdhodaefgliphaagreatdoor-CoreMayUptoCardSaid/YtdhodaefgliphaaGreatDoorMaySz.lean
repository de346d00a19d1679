/- Contracts: the law's own measures (they answer). -/
import Derived.Test.YtdhodaefgliphaaGreatDoorMayI
import Derived.Test.YtdhodaefgliphaaGreatDoorRows
import Derived.ProofKit
import Derived.OpenShut
set_option linter.unusedVariables false
set_option linter.unusedSimpArgs false
namespace Go.Proofs.YtdhodaefgliphaaGreatDoor
open Go.RowKit
def Num (w : World) (e : Ending) (w' : World) : Prop := (∃ z : Int, e = .returned (.int .i64 z)) ∧ Below w.heap.size w w'
theorem numb (w w' : World) (z : Int) (h : Below w.heap.size w w') : Num w (.returned (.int .i64 z)) w' := ⟨⟨z, rfl⟩, h⟩
set_option maxHeartbeats 1000000 in
theorem lpats_any : ∀ (N : Nat) (p : CPat) (us : List Value) (m : Int) (w : World), p.size ≤ N → p.size ≤ 1048576 → Rds w w.heap.size us p.d →
  Calls Tryz.prog 17 #[.agg us.toArray, .int .i64 m] w (Num w) := by
 intro N
 induction N with
 | zero => intro p us m w h; have := p.size_pos; omega
 | succ N ih =>
   intro p us m w hN hs hus
   have IH := Lib.hid ih
   clear ih
   obtain ⟨v7, rfl, h7, -⟩ := CPat.cells hus
   have hsz := CPat.size_eq p
   obtain ⟨l, hl⟩ : ∃ l, p.l = l := ⟨_, rfl⟩
   rw [hl] at h7 hsz
   have hlen : l.length ≤ 1048576 := by have := CPat.sizes_len l; omega
   have H7 := Lib.hid h7
   obtain ⟨a, cap, rfl⟩ := h7.slice_inv
   have hN2 : CPat.sizes l ≤ N ∧ CPat.sizes l ≤ 1048576 := by omega
   clear hsz hl hus h7 hN hs
   go_enter Tryz.func17, Tryz.ntmps17
   go_wp2
   go_loopw [5, 11] (fun u5 u11 wr => ∃ (k : Nat) (z : Int), k ≤ l.length ∧ u11 = .int .i64 k ∧ u5 = .int .i64 z ∧ Below w.heap.size w wr) (fun _ u _ => l.length - (intOf u).toNat)
   case atStart => exact ⟨0, 1, Nat.zero_le _, rfl, rfl, by (repeat (with_reducible first | exact Below.refl _ _ | refine Below.setCell ?_ ?_ _ | refine Below.alloc ?_ ?_ _ | refine Below.drewN ?_ _ | refine Below.drew ?_)) <;> first | omega | (simp; omega) | (simp; done)⟩
   case round =>
    obtain ⟨k, z, hk, rfl, rfl, hbel⟩ := hrel
    have hsz0 := hbel.size
    by_cases hlt : k < l.length
    ·obtain ⟨b, off, cap', us, hv, hb, hc, hcell, hus⟩ := H7.out.elem CPat.d_len rfl k hlt (by omega)
     injection hv with ha hn' hcap
     subst ha hcap
     have hN3 : l[k].size ≤ N ∧ l[k].size ≤ 1048576 := by have := CPat.sizes_get l k hlt; omega
     have HC := Lib.hid (fun (W : World) (hW : Below w.heap.size w W) (m' : Int) => IH.out l[k] us m' W hN3.1 hN3.2 ((hus.keep hW).mono hW.size))
     obtain ⟨v7', rfl, h7', -⟩ := CPat.cells hus
     obtain ⟨a2, cap2, rfl⟩ := h7'.slice_inv
     have c0 := (hbel.cell (p := ⟨b, off + k * 8, none⟩) hb).trans (hcell 0 _ rfl)
     have c1 := (hbel.cell (p := ⟨b, off + k * 8 + 1, none⟩) hb).trans (hcell 1 _ rfl)
     have c2 := (hbel.cell (p := ⟨b, off + k * 8 + 2, none⟩) hb).trans (hcell 2 _ rfl)
     have c3 := (hbel.cell (p := ⟨b, off + k * 8 + 3, none⟩) hb).trans (hcell 3 _ rfl)
     have c4 := (hbel.cell (p := ⟨b, off + k * 8 + 4, none⟩) hb).trans (hcell 4 _ rfl)
     have c5 := (hbel.cell (p := ⟨b, off + k * 8 + 5, none⟩) hb).trans (hcell 5 _ rfl)
     have c6 := (hbel.cell (p := ⟨b, off + k * 8 + 6, none⟩) hb).trans (hcell 6 _ rfl)
     have c7 := (hbel.cell (p := ⟨b, off + k * 8 + 7, none⟩) hb).trans (hcell 7 _ rfl)
     clear hcell hus h7' hN3
     by_cases hzm : z < m
     ·have e1 : decide (z < m) = true := decide_eq_true hzm
      clear hzm
      go_wp2_with fail
      refine (HC.out _ (by (repeat (with_reducible first | exact hbel | refine Below.setCell ?_ ?_ _ | refine Below.alloc ?_ ?_ _ | refine Below.drewN ?_ _ | refine Below.drew ?_)) <;> first | omega | (simp; omega) | (simp; done)) _).mono ?_
      rintro e w3 ⟨⟨y, rfl⟩, hb3⟩
      have hb4 : Below w.heap.size w w3 := Below.trans (by (repeat (with_reducible first | exact hbel | refine Below.setCell ?_ ?_ _ | refine Below.alloc ?_ ?_ _ | refine Below.drewN ?_ _ | refine Below.drew ?_)) <;> first | omega | (simp; omega) | (simp; done)) (hb3.mono (by first | omega | (simp; omega) | (simp; done)))
      clear hb3
      go_wp2
      go_roundw
      case rel => exact ⟨k + 1, _, hlt, by go_num, rfl, hb4⟩
      case measure => simp [intOf]; omega
     ·have e1 : decide (z < m) = false := decide_eq_false hzm
      clear hzm
      go_wp2
      go_roundw
      case rel => exact ⟨k + 1, z, hlt, by go_num, rfl, by (repeat (with_reducible first | exact hbel | refine Below.setCell ?_ ?_ _ | refine Below.alloc ?_ ?_ _ | refine Below.drewN ?_ _ | refine Below.drew ?_)) <;> first | omega | (simp; omega) | (simp; done)⟩
      case measure => simp [intOf]; omega
    ·have e1 : decide ((k : Int) < (l.length : Int)) = false := decide_eq_false (by omega)
     go_wp2
     go_ret
     exact numb _ _ _ hbel
set_option maxRecDepth 100000 in
set_option maxHeartbeats 2000000 in
theorem lweight_any : ∀ (N : Nat) (c : Core) (us : List Value) (m : Int) (w : World), c.size ≤ N → c.size ≤ 1048576 → Rds w w.heap.size us c.d →
  Calls Tryz.prog 8 #[.agg us.toArray, .int .i64 m] w (Num w) := by
 intro N
 induction N with
 | zero => intro c us m w h; have := c.size_pos; omega
 | succ N ih =>
   intro c us m w hN hs hus
   have IH := Lib.hid ih
   clear ih
   obtain ⟨v7, v8, rfl, h7, h8, -⟩ := Core.cells hus
   have hsz := Core.size_eq c
   obtain ⟨l, hl⟩ : ∃ l, c.l = l := ⟨_, rfl⟩
   obtain ⟨arms, harms⟩ : ∃ l, c.arms = l := ⟨_, rfl⟩
   rw [hl] at h7 hsz
   rw [harms] at h8 hsz
   have hlen : l.length ≤ 1048576 := by have := Core.sizes_len l; omega
   have hlen8 : arms.length ≤ 1048576 := by have := CArm.sizes_len arms; omega
   have H7 := Lib.hid h7
   have H8 := Lib.hid h8
   obtain ⟨a, cap, rfl⟩ := h7.slice_inv
   obtain ⟨a8, cap8, rfl⟩ := h8.slice_inv
   have hN2 : Core.sizes l ≤ N ∧ Core.sizes l ≤ 1048576 ∧ CArm.sizes arms ≤ N ∧ CArm.sizes arms ≤ 1048576 := by omega
   clear hsz hl harms hus h7 h8 hN hs
   go_enter Tryz.func8, Tryz.ntmps8
   go_wp2
   obtain ⟨box, hbox⟩ : ∃ b : Array Value, #[.int .u8 c.kind, .int .i64 c.n, .int .i64 c.i, .string c.s, .int .i64 c.at_, .int .i64 c.line, .int .i64 c.col, .slice a l.length cap, .slice a8 arms.length cap8] = b := ⟨_, rfl⟩
   have b8 : box[8]? = some (.slice a8 arms.length cap8) := by rw [← hbox]; rfl
   obtain ⟨w0', hw0⟩ : ∃ W, w.alloc (.cells box 38) = W := ⟨_, rfl⟩
   have hb0 : Blk w0' w.heap.size box 38 := by rw [← hw0]; exact Blk.new _ _ _ _ rfl
   have hl0 : Below w.heap.size w w0' := by rw [← hw0]; exact (Below.refl _ _).alloc (Nat.le_refl _) _
   have HI0 := Lib.hid (⟨hl0, hb0⟩ : Below w.heap.size w w0' ∧ Blk w0' w.heap.size box 38)
   rw [hbox, hw0]
   clear hbox hw0 hb0 hl0
   go_loopw [5, 18] (fun u5 u11 wr => ∃ (k : Nat) (z : Int), k ≤ l.length ∧ u11 = .int .i64 k ∧ u5 = .int .i64 z ∧ Hid (Below w.heap.size w wr ∧ Blk wr w.heap.size box 38)) (fun _ u _ => l.length - (intOf u).toNat)
   case atStart => exact ⟨0, _, Nat.zero_le _, rfl, rfl, HI0⟩
   case round =>
    obtain ⟨k, z, hk, rfl, rfl, HI⟩ := hrel
    have hbel := HI.out.1
    have hsz0 := hbel.size
    by_cases hlt : k < l.length
    ·obtain ⟨b, off, cap', us, hv, hb, hc, hcell, hus⟩ := H7.out.elem Core.d_len rfl k hlt (by omega)
     injection hv with ha hn' hcap
     subst ha hcap
     have hN3 : l[k].size ≤ N ∧ l[k].size ≤ 1048576 := by have := Core.sizes_get l k hlt; omega
     have HC := Lib.hid (fun (W : World) (hW : Below w.heap.size w W) (m' : Int) => IH.out l[k] us m' W hN3.1 hN3.2 ((hus.keep hW).mono hW.size))
     obtain ⟨v7', v8', rfl, h7', h8', -⟩ := Core.cells hus
     obtain ⟨a2, cap2, rfl⟩ := h7'.slice_inv
     obtain ⟨a3, cap3, rfl⟩ := h8'.slice_inv
     have c0 := (hbel.cell (p := ⟨b, off + k * 9, none⟩) hb).trans (hcell 0 _ rfl)
     have c1 := (hbel.cell (p := ⟨b, off + k * 9 + 1, none⟩) hb).trans (hcell 1 _ rfl)
     have c2 := (hbel.cell (p := ⟨b, off + k * 9 + 2, none⟩) hb).trans (hcell 2 _ rfl)
     have c3 := (hbel.cell (p := ⟨b, off + k * 9 + 3, none⟩) hb).trans (hcell 3 _ rfl)
     have c4 := (hbel.cell (p := ⟨b, off + k * 9 + 4, none⟩) hb).trans (hcell 4 _ rfl)
     have c5 := (hbel.cell (p := ⟨b, off + k * 9 + 5, none⟩) hb).trans (hcell 5 _ rfl)
     have c6 := (hbel.cell (p := ⟨b, off + k * 9 + 6, none⟩) hb).trans (hcell 6 _ rfl)
     have c7 := (hbel.cell (p := ⟨b, off + k * 9 + 7, none⟩) hb).trans (hcell 7 _ rfl)
     have c8 := (hbel.cell (p := ⟨b, off + k * 9 + 8, none⟩) hb).trans (hcell 8 _ rfl)
     clear hcell hus h7' h8' hN3
     by_cases hzm : z < m
     ·have e1 : decide (z < m) = true := decide_eq_true hzm
      clear hzm
      go_wp2_with fail
      refine (HC.out _ (by (repeat (with_reducible first | exact hbel | refine Below.setCell ?_ ?_ _ | refine Below.alloc ?_ ?_ _ | refine Below.drewN ?_ _ | refine Below.drew ?_)) <;> first | omega | (simp; omega) | (simp; done)) _).mono ?_
      rintro e w3 ⟨⟨y, rfl⟩, hb3⟩
      have hb4 : Below w.heap.size w w3 := Below.trans (by (repeat (with_reducible first | exact hbel | refine Below.setCell ?_ ?_ _ | refine Below.alloc ?_ ?_ _ | refine Below.drewN ?_ _ | refine Below.drew ?_)) <;> first | omega | (simp; omega) | (simp; done)) (hb3.mono (by first | omega | (simp; omega) | (simp; done)))
      have HI2 := Lib.hid (⟨hb4, (HI.out.2.alloc _).below hb3 (by first | omega | (simp; omega) | (simp; done))⟩ : Below w.heap.size w w3 ∧ Blk w3 w.heap.size box 38)
      clear hb3 hb4
      go_wp2
      go_roundw
      case rel => exact ⟨k + 1, _, hlt, by go_num, rfl, HI2⟩
      case measure => simp [intOf]; omega
     ·have e1 : decide (z < m) = false := decide_eq_false hzm
      clear hzm
      go_wp2
      go_roundw
      case rel => exact ⟨k + 1, z, hlt, by go_num, rfl, Lib.hid ⟨by (repeat (with_reducible first | exact hbel | refine Below.setCell ?_ ?_ _ | refine Below.alloc ?_ ?_ _ | refine Below.drewN ?_ _ | refine Below.drew ?_)) <;> first | omega | (simp; omega) | (simp; done), HI.out.2.alloc _⟩⟩
      case measure => simp [intOf]; omega
    ·have e1 : decide ((k : Int) < (l.length : Int)) = false := decide_eq_false (by omega)
     have x8 : wr.cell? ⟨w.heap.size, 8, none⟩ = some (.slice a8 arms.length cap8) := (HI.out.2.cell 8).trans b8
     go_wp2_with fail
     go_loopw [5, 36] (fun u5 u11 wr => ∃ (k : Nat) (z : Int), k ≤ arms.length ∧ u11 = .int .i64 k ∧ u5 = .int .i64 z ∧ Below w.heap.size w wr) (fun _ u _ => arms.length - (intOf u).toNat)
     case atStart => exact ⟨0, z, Nat.zero_le _, rfl, rfl, hbel⟩
     case round =>
      clear hbel hsz0 x8 HI hlt e1 hk
      obtain ⟨wq, rfl⟩ : ∃ x, x = wr := ⟨_, rfl⟩
      obtain ⟨k, z, hk, rfl, rfl, hbel⟩ := hrel
      have hsz0 := hbel.size
      by_cases hlt : k < arms.length
      ·obtain ⟨b, off, cap', us, hv, hb, hc, hcell, hus⟩ := H8.out.elem CArm.d_len rfl k hlt (by omega)
       injection hv with ha hn' hcap
       subst ha hcap
       have hN3 : arms[k].p.size ≤ 1048576 ∧ arms[k].e.size ≤ N ∧ arms[k].e.size ≤ 1048576 := by have := CArm.sizes_get arms k hlt; have := CArm.size_eq arms[k]; omega
       obtain ⟨u1, u2, rfl, hu1, hu2⟩ := CArm.cells hus
       have HP := Lib.hid (fun (W : World) (hW : Below w.heap.size w W) (m' : Int) => lpats_any _ arms[k].p u1 m' W (Nat.le_refl _) hN3.1 ((hu1.keep hW).mono hW.size))
       have HC := Lib.hid (fun (W : World) (hW : Below w.heap.size w W) (m' : Int) => IH.out arms[k].e u2 m' W hN3.2.1 hN3.2.2 ((hu2.keep hW).mono hW.size))
       obtain ⟨q7, rfl, g7, -⟩ := CPat.cells hu1
       obtain ⟨v7', v8', rfl, h7', h8', -⟩ := Core.cells hu2
       obtain ⟨a1, cap1, rfl⟩ := g7.slice_inv
       obtain ⟨a2, cap2, rfl⟩ := h7'.slice_inv
       obtain ⟨a3, cap3, rfl⟩ := h8'.slice_inv
       have c0 := (hbel.cell (p := ⟨b, off + k * 17, none⟩) hb).trans (hcell 0 _ rfl)
       have c1 := (hbel.cell (p := ⟨b, off + k * 17 + 1, none⟩) hb).trans (hcell 1 _ rfl)
       have c2 := (hbel.cell (p := ⟨b, off + k * 17 + 2, none⟩) hb).trans (hcell 2 _ rfl)
       have c3 := (hbel.cell (p := ⟨b, off + k * 17 + 3, none⟩) hb).trans (hcell 3 _ rfl)
       have c4 := (hbel.cell (p := ⟨b, off + k * 17 + 4, none⟩) hb).trans (hcell 4 _ rfl)
       have c5 := (hbel.cell (p := ⟨b, off + k * 17 + 5, none⟩) hb).trans (hcell 5 _ rfl)
       have c6 := (hbel.cell (p := ⟨b, off + k * 17 + 6, none⟩) hb).trans (hcell 6 _ rfl)
       have c7 := (hbel.cell (p := ⟨b, off + k * 17 + 7, none⟩) hb).trans (hcell 7 _ rfl)
       have c8 := (hbel.cell (p := ⟨b, off + k * 17 + 8, none⟩) hb).trans (hcell 8 _ rfl)
       have c9 := (hbel.cell (p := ⟨b, off + k * 17 + 9, none⟩) hb).trans (hcell 9 _ rfl)
       have c10 := (hbel.cell (p := ⟨b, off + k * 17 + 10, none⟩) hb).trans (hcell 10 _ rfl)
       have c11 := (hbel.cell (p := ⟨b, off + k * 17 + 11, none⟩) hb).trans (hcell 11 _ rfl)
       have c12 := (hbel.cell (p := ⟨b, off + k * 17 + 12, none⟩) hb).trans (hcell 12 _ rfl)
       have c13 := (hbel.cell (p := ⟨b, off + k * 17 + 13, none⟩) hb).trans (hcell 13 _ rfl)
       have c14 := (hbel.cell (p := ⟨b, off + k * 17 + 14, none⟩) hb).trans (hcell 14 _ rfl)
       have c15 := (hbel.cell (p := ⟨b, off + k * 17 + 15, none⟩) hb).trans (hcell 15 _ rfl)
       have c16 := (hbel.cell (p := ⟨b, off + k * 17 + 16, none⟩) hb).trans (hcell 16 _ rfl)
       clear hcell hus hu1 hu2 g7 h7' h8' hN3
       by_cases hzm : z < m
       ·have e1 : decide (z < m) = true := decide_eq_true hzm
        clear hzm
        go_wp2_with fail
        refine (HP.out _ (by (repeat (with_reducible first | exact hbel | refine Below.setCell ?_ ?_ _ | refine Below.alloc ?_ ?_ _ | refine Below.drewN ?_ _ | refine Below.drew ?_)) <;> first | omega | (simp; omega) | (simp; done)) _).mono ?_
        rintro e w3 ⟨⟨y, rfl⟩, hb3⟩
        have hb4 : Below w.heap.size w w3 := Below.trans (by (repeat (with_reducible first | exact hbel | refine Below.setCell ?_ ?_ _ | refine Below.alloc ?_ ?_ _ | refine Below.drewN ?_ _ | refine Below.drew ?_)) <;> first | omega | (simp; omega) | (simp; done)) (hb3.mono (by first | omega | (simp; omega) | (simp; done)))
        have hk9 := (Blk.new wq wq.heap.size #[.int .u8 arms[k].p.kind, .int .i64 arms[k].p.n, .int .i64 arms[k].p.i, .string arms[k].p.s, .int .i64 arms[k].p.at_, .int .i64 arms[k].p.line, .int .i64 arms[k].p.col, .slice a1 arms[k].p.l.length cap1, .int .u8 arms[k].e.kind, .int .i64 arms[k].e.n, .int .i64 arms[k].e.i, .string arms[k].e.s, .int .i64 arms[k].e.at_, .int .i64 arms[k].e.line, .int .i64 arms[k].e.col, .slice a2 arms[k].e.l.length cap2, .slice a3 arms[k].e.arms.length cap3] 51 rfl).below hb3 (by first | omega | (simp; omega) | (simp; done))
        have d8 : w3.cell? ⟨wq.heap.size, 8, none⟩ = some (.int .u8 arms[k].e.kind) := (hk9.cell 8).trans rfl
        have d9 : w3.cell? ⟨wq.heap.size, 9, none⟩ = some (.int .i64 arms[k].e.n) := (hk9.cell 9).trans rfl
        have d10 : w3.cell? ⟨wq.heap.size, 10, none⟩ = some (.int .i64 arms[k].e.i) := (hk9.cell 10).trans rfl
        have d11 : w3.cell? ⟨wq.heap.size, 11, none⟩ = some (.string arms[k].e.s) := (hk9.cell 11).trans rfl
        have d12 : w3.cell? ⟨wq.heap.size, 12, none⟩ = some (.int .i64 arms[k].e.at_) := (hk9.cell 12).trans rfl
        have d13 : w3.cell? ⟨wq.heap.size, 13, none⟩ = some (.int .i64 arms[k].e.line) := (hk9.cell 13).trans rfl
        have d14 : w3.cell? ⟨wq.heap.size, 14, none⟩ = some (.int .i64 arms[k].e.col) := (hk9.cell 14).trans rfl
        have d15 : w3.cell? ⟨wq.heap.size, 15, none⟩ = some (.slice a2 arms[k].e.l.length cap2) := (hk9.cell 15).trans rfl
        have d16 : w3.cell? ⟨wq.heap.size, 16, none⟩ = some (.slice a3 arms[k].e.arms.length cap3) := (hk9.cell 16).trans rfl
        have hs3 : wq.heap.size < w3.heap.size := by have := hb3.size; simp at this; omega
        clear hb3 hk9 c0 c1 c2 c3 c4 c5 c6 c7 c8 c9 c10 c11 c12 c13 c14 c15 c16
        by_cases hym : wrap64 (z + wrap64 (y + 1)) < m
        ·have e2 : decide (wrap64 (z + wrap64 (y + 1)) < m) = true := decide_eq_true hym
         clear hym
         go_wp2_with fail
         refine (HC.out _ (by (repeat (with_reducible first | exact hb4 | refine Below.setCell ?_ ?_ _ | refine Below.alloc ?_ ?_ _ | refine Below.drewN ?_ _ | refine Below.drew ?_)) <;> first | omega | (simp; omega) | (simp; done)) _).mono ?_
         rintro e w4 ⟨⟨y', rfl⟩, hb5⟩
         have hb6 : Below w.heap.size w w4 := Below.trans (by (repeat (with_reducible first | exact hb4 | refine Below.setCell ?_ ?_ _ | refine Below.alloc ?_ ?_ _ | refine Below.drewN ?_ _ | refine Below.drew ?_)) <;> first | omega | (simp; omega) | (simp; done)) (hb5.mono (by first | omega | (simp; omega) | (simp; done)))
         clear hb5
         go_wp2
         go_roundw
         case rel => exact ⟨k + 1, _, hlt, by go_num, rfl, hb6⟩
         case measure => simp [intOf]; omega
        ·have e2 : decide (wrap64 (z + wrap64 (y + 1)) < m) = false := decide_eq_false hym
         clear hym
         go_wp2
         go_roundw
         case rel => exact ⟨k + 1, _, hlt, by go_num, rfl, hb4⟩
         case measure => simp [intOf]; omega
       ·have e1 : decide (z < m) = false := decide_eq_false hzm
        clear hzm
        go_wp2
        go_roundw
        case rel => exact ⟨k + 1, z, hlt, by go_num, rfl, by (repeat (with_reducible first | exact hbel | refine Below.setCell ?_ ?_ _ | refine Below.alloc ?_ ?_ _ | refine Below.drewN ?_ _ | refine Below.drew ?_)) <;> first | omega | (simp; omega) | (simp; done)⟩
        case measure => simp [intOf]; omega
      ·have e1 : decide ((k : Int) < (arms.length : Int)) = false := decide_eq_false (by omega)
       go_wp2
       go_ret
       exact numb _ _ _ hbel
set_option maxRecDepth 100000 in
set_option maxHeartbeats 2000000 in
theorem lgreat_any (p : Prog) (us : List Value) (w : World) (hsm : p.Small) (hus : Rds w w.heap.size us p.d) :
  Calls Tryz.prog 4 #[.agg us.toArray] w fun e w' => (∃ B : Bool, e = .returned (.bool B)) ∧ Below w.heap.size w w' := by
 obtain ⟨dv, cv, tv, rfl, gs, gt, wv⟩ := Prog.cells hus
 have GT := Lib.hid gt
 have SM := Lib.hid hsm
 have hnt := hsm.nt
 have hnd := hsm.sig.nd
 have hnc := hsm.sig.nc
 obtain ⟨at_, ct, rfl⟩ := gt.slice_inv
 obtain ⟨v0, v1, e, g0, g1⟩ := Sig.cells gs
 injection e with e1 e2
 injection e2 with e2 _
 subst e1 e2
 obtain ⟨ad, cd, rfl⟩ := g0.slice_inv
 obtain ⟨ac, cc, rfl⟩ := g1.slice_inv
 obtain ⟨vars, hvars⟩ : ∃ z, p.vars = z := ⟨_, rfl⟩
 rw [hvars]
 clear gs gt wv g0 g1 hus hsm hvars
 go_enter Tryz.func4, Tryz.ntmps4
 go_upto_region 1 with fail
 go_cut [3] (fun v wx => ∃ z : Int, v = .int .i64 z ∧ wx = w.alloc (.cells #[.slice ad p.sig.datas.length cd, .slice ac p.sig.cons.length cc, .slice at_ p.tops.length ct, .int .i64 vars] 28))
 case first =>
  go_wp2
  all_goals
   go_meet
   exact ⟨_, rfl, rfl⟩
 case rest =>
  obtain ⟨z0, rfl, rfl⟩ := hcut
  go_wp2
  go_loopw [3, 20] (fun u5 u11 wr => ∃ (k : Nat) (z : Int), k ≤ p.tops.length ∧ u11 = .int .i64 k ∧ u5 = .int .i64 z ∧ Below w.heap.size w wr) (fun _ u _ => p.tops.length - (intOf u).toNat)
  case atStart => exact ⟨0, _, Nat.zero_le _, rfl, rfl, by (repeat (with_reducible first | exact Below.refl _ _ | refine Below.setCell ?_ ?_ _ | refine Below.alloc ?_ ?_ _ | refine Below.drewN ?_ _ | refine Below.drew ?_)) <;> first | omega | (simp; omega) | (simp; done)⟩
  case round =>
   obtain ⟨k, z, hk, rfl, rfl, hbel⟩ := hrel
   have hsz0 := hbel.size
   by_cases hlt : k < p.tops.length
   ·obtain ⟨b, off, cap', us, hv, hb, hc, hcell, hus⟩ := GT.out.elem Top.d_len rfl k hlt (by omega)
    injection hv with ha hn' hcap
    subst ha hcap
    have hN3 := SM.out.top k hlt
    obtain ⟨ue, rfl, hue, -⟩ := Top.cells hus
    have HC := Lib.hid (fun (W : World) (hW : Below w.heap.size w W) (m' : Int) => lweight_any _ p.tops[k].e ue m' W (Nat.le_refl _) hN3 ((hue.keep hW).mono hW.size))
    obtain ⟨v7', v8', rfl, h7', h8', -⟩ := Core.cells hue
    obtain ⟨a2, cap2, rfl⟩ := h7'.slice_inv
    obtain ⟨a3, cap3, rfl⟩ := h8'.slice_inv
    have c0 := (hbel.cell (p := ⟨b, off + k * 11, none⟩) hb).trans (hcell 0 _ rfl)
    have c1 := (hbel.cell (p := ⟨b, off + k * 11 + 1, none⟩) hb).trans (hcell 1 _ rfl)
    have c2 := (hbel.cell (p := ⟨b, off + k * 11 + 2, none⟩) hb).trans (hcell 2 _ rfl)
    have c3 := (hbel.cell (p := ⟨b, off + k * 11 + 3, none⟩) hb).trans (hcell 3 _ rfl)
    have c4 := (hbel.cell (p := ⟨b, off + k * 11 + 4, none⟩) hb).trans (hcell 4 _ rfl)
    have c5 := (hbel.cell (p := ⟨b, off + k * 11 + 5, none⟩) hb).trans (hcell 5 _ rfl)
    have c6 := (hbel.cell (p := ⟨b, off + k * 11 + 6, none⟩) hb).trans (hcell 6 _ rfl)
    have c7 := (hbel.cell (p := ⟨b, off + k * 11 + 7, none⟩) hb).trans (hcell 7 _ rfl)
    have c8 := (hbel.cell (p := ⟨b, off + k * 11 + 8, none⟩) hb).trans (hcell 8 _ rfl)
    have c9 := (hbel.cell (p := ⟨b, off + k * 11 + 9, none⟩) hb).trans (hcell 9 _ rfl)
    have c10 := (hbel.cell (p := ⟨b, off + k * 11 + 10, none⟩) hb).trans (hcell 10 _ rfl)
    clear hcell hus hue h7' h8' hN3
    by_cases hzm : z < 5000
    ·have e1 : decide (z < 5000) = true := decide_eq_true hzm
     clear hzm
     go_wp2_with fail
     refine (HC.out _ (by (repeat (with_reducible first | exact hbel | refine Below.setCell ?_ ?_ _ | refine Below.alloc ?_ ?_ _ | refine Below.drewN ?_ _ | refine Below.drew ?_)) <;> first | omega | (simp; omega) | (simp; done)) _).mono ?_
     rintro e w3 ⟨⟨y, rfl⟩, hb3⟩
     have hb4 : Below w.heap.size w w3 := Below.trans (by (repeat (with_reducible first | exact hbel | refine Below.setCell ?_ ?_ _ | refine Below.alloc ?_ ?_ _ | refine Below.drewN ?_ _ | refine Below.drew ?_)) <;> first | omega | (simp; omega) | (simp; done)) (hb3.mono (by first | omega | (simp; omega) | (simp; done)))
     clear hb3
     go_wp2
     go_roundw
     case rel => exact ⟨k + 1, _, hlt, by go_num, rfl, hb4⟩
     case measure => simp [intOf]; omega
    ·have e1 : decide (z < 5000) = false := decide_eq_false hzm
     clear hzm
     go_wp2
     go_roundw
     case rel => exact ⟨k + 1, z, hlt, by go_num, rfl, by (repeat (with_reducible first | exact hbel | refine Below.setCell ?_ ?_ _ | refine Below.alloc ?_ ?_ _ | refine Below.drewN ?_ _ | refine Below.drew ?_)) <;> first | omega | (simp; omega) | (simp; done)⟩
     case measure => simp [intOf]; omega
   ·have e1 : decide ((k : Int) < (p.tops.length : Int)) = false := decide_eq_false (by omega)
    go_wp2
    go_ret
    exact ⟨⟨_, rfl⟩, hbel⟩
end Go.Proofs.YtdhodaefgliphaaGreatDoor
namespace Go.Proofs.YtdhodaefgliphaaGreatDoor
open Go.RowKit Go.ChangeShapes Go.WideShapes
theorem wts_get {α : Type} (f : α → List D) : ∀ (l : List α) (i : Nat) (h : i < l.length), D.wts (f l[i]) ≤ D.wts (l.flatMap f)
 | [], i, h => by simp at h
 | x :: l, 0, h => by rw [List.flatMap_cons, wts_append]; simp
 | x :: l, i + 1, h => by
   have := wts_get f l i (by simpa using h)
   rw [List.flatMap_cons, wts_append]
   simp only [List.getElem_cons_succ]; omega
theorem wts_count {α : Type} (f : α → List D) (hf : ∀ x, 1 ≤ D.wts (f x)) : ∀ l : List α, l.length ≤ D.wts (l.flatMap f)
 | [] => by simp
 | x :: l => by
   have := wts_count f hf l
   have := hf x
   rw [List.flatMap_cons, wts_append, List.length_cons]; omega
theorem wts_ints (k : IntKind) : ∀ l : List Int, D.wts (l.map (D.int k)) = l.length
 | [] => rfl
 | z :: l => by simp only [List.map_cons, D.wts, D.wt, wts_ints k l, List.length_cons]; omega
mutual
theorem ty_wts : ∀ t : Ty, t.size ≤ D.wts t.d
 | .mk kind n v c l => by
   have := tys_wts l
   simp only [Ty.size, Ty.d, D.wts, D.wt]; omega
theorem tys_wts : ∀ l : List Ty, Ty.size.sizes l ≤ D.wts (Ty.dl l)
 | [] => by simp [Ty.size.sizes]
 | t :: r => by
   have h1 := ty_wts t
   have h2 := tys_wts r
   simp only [Ty.size.sizes, Ty.dl, wts_append]; omega
end
theorem ty_pos (t : Ty) : 1 ≤ D.wts t.d := by have := ty_wts t; have := size_pos t; omega
theorem data_wts (x : Data) : D.wts x.d = x.name.size + 1 + (1 + (x.cons.length + 1)) := by
 simp only [Data.d, D.wts, D.wt, wts_ints]
theorem con_wts (x : Con) : D.wts x.d = x.name.size + 1 + (1 + (D.wts (x.fields.flatMap Ty.d) + 1 + (x.mults.length + 1))) := by
 simp only [Con.d, D.wts, D.wt, wts_ints]
theorem sig_small (s : Sig) (h : D.wts s.d ≤ 1048576) : s.Small := by
 have e : D.wts s.d = D.wts (s.datas.flatMap Data.d) + 1 + (D.wts (s.cons.flatMap Con.d) + 1) := by simp only [Sig.d, D.wts, D.wt]
 refine ⟨?_, ?_, fun i hi => ?_, fun i hi => ?_⟩
 ·have := wts_count Data.d (fun x => by rw [data_wts]; omega) s.datas; omega
 ·have := wts_count Con.d (fun x => by rw [con_wts]; omega) s.cons; omega
 ·have h1 := wts_get Con.d s.cons i hi
  have h2 := con_wts s.cons[i]
  have h3 := wts_count Ty.d ty_pos s.cons[i].fields
  refine ⟨by omega, by omega, by omega, fun k hk => ?_⟩
  have h4 := wts_get Ty.d s.cons[i].fields k hk
  have h5 := ty_wts (s.cons[i].fields[k])
  omega
 ·have h1 := wts_get Data.d s.datas i hi
  have h2 := data_wts s.datas[i]
  omega
theorem top_wts (x : Top) : D.wts x.d = x.name.size + 1 + (1 + D.wts x.e.d) := by simp only [Top.d, D.wts, D.wt]
theorem prog_small (p : Prog) (h : D.wts p.d ≤ 1048576) : p.Small := by
 have e : D.wts p.d = D.wts p.sig.d + (D.wts (p.tops.flatMap Top.d) + 1 + (1 + 0)) := by simp only [Prog.d, wts_append, D.wts, D.wt]
 refine ⟨sig_small p.sig (by omega), ?_, fun i hi => ?_⟩
 ·have := wts_count Top.d (fun x => by rw [top_wts]; omega) p.tops; omega
 ·have h1 := wts_get Top.d p.tops i hi
  have h2 := top_wts p.tops[i]
  have h3 := Core.size_wts p.tops[i].e
  omega
theorem agg_of {v : Value} (h : v.cells.toList.length ≠ 1) : v = .agg v.cells.toList.toArray := by
 cases v <;> simp [Value.cells] at h ⊢
def progTypes : List TypeId := [28, 25, 22, 97, 53, 3, 9, 23, 88, 86, 89, 85, 93, 91, 26, 40, 4, 38, 5, 2, 34, 35, 36, 51, 49, 47]
theorem progPlain : plainAll Tryz.prog progTypes = true := by kernel_rfl
theorem open_prog {H : Type} {enc : TypeId × Value → H} {W : World} {base : Nat} {spare : Nat → Bool} {held : Bool} {v : Value} {d : DataW H} {p : List MemPlace} (h : DataW.Trod enc Tryz.prog W base spare held 28 v d p)
  (hlt : ∀ x ∈ p, x.block < W.heap.size) (hk : Rows.uptoBulk d ≤ 1048576) : ∃ (x : Prog) (us : List Value), v = .agg us.toArray ∧ x.Small ∧ Rds W W.heap.size us x.d := by
 obtain ⟨fuel, hf⟩ := h
 obtain ⟨ds, hr, hh, hw⟩ := rd_of_trod progTypes progPlain fuel 28 v.cells.toList (d, p) (.head _) hf hlt
 obtain ⟨x, rfl⟩ := has_Prog hh
 have hl := hr.1
 rw [x.d_len] at hl
 exact ⟨x, v.cells.toList, agg_of (by omega), prog_small x (Nat.le_trans hw hk), hr⟩
end Go.Proofs.YtdhodaefgliphaaGreatDoor
