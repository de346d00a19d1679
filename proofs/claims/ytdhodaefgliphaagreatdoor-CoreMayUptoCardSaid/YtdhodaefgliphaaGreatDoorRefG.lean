/- Contracts of the document's answer for layer 14: Takes, Bound.bind. -/
import Derived.Test.YtdhodaefgliphaaGreatDoorMayG
import Derived.Deep.Cut
set_option linter.unusedVariables false
set_option linter.unusedSimpArgs false
namespace Go.Proofs.YtdhodaefgliphaaGreatDoor
open Go.RowKit
abbrev bndC (dv cv tv : Value) (vars tops : Int) (bb hb n : Nat) : Array Value := #[dv, cv, tv, .int .i64 vars, .int .i64 tops, .slice (some ⟨hb, 0, none⟩) n n, .slice (some ⟨bb, 0, none⟩) n n]
def takesA : Array Value := #[.int .i64 0, .int .i64 2, .int .i64 1, .int .i64 2, .int .i64 1, .int .i64 2, .int .i64 2, .int .i64 3, .int .i64 1, .int .i64 1, .int .i64 1, .int .i64 2, .int .i64 2, .int .i64 2, .int .i64 2, .int .i64 2, .int .i64 2, .int .i64 2, .int .i64 2]
theorem takesZeros : (Tryz.prog.info? 154).map (·.size) = some 19 := by kernel_rfl
theorem Below.setRow {B : Nat} {w v : World} {g : Nat} {cs : Array Value} (h : Below B w v) (hg : B ≤ g) : Below B w (v.setRow g cs) :=
 ⟨h.os, h.tape, h.output, by rw [setRow_size]; exact h.size, fun k hk => (setRow_other v g k cs (by omega)).trans (h.block k hk)⟩
theorem takesA_at (m : Nat) (h1 : 1 ≤ m) (h2 : m ≤ 18) : takesA[m]? = some (.int .i64 (takesZ m)) := by
 have : m = 1 ∨ m = 2 ∨ m = 3 ∨ m = 4 ∨ m = 5 ∨ m = 6 ∨ m = 7 ∨ m = 8 ∨ m = 9 ∨ m = 10 ∨ m = 11 ∨ m = 12 ∨ m = 13 ∨ m = 14 ∨ m = 15 ∨ m = 16 ∨ m = 17 ∨ m = 18 := by omega
 rcases this with rfl | rfl | rfl | rfl | rfl | rfl | rfl | rfl | rfl | rfl | rfl | rfl | rfl | rfl | rfl | rfl | rfl | rfl <;> rfl
set_option maxRecDepth 100000 in
set_option maxHeartbeats 1000000 in
theorem rtakes_any (n : Int) (w : World) :
  Calls Tryz.prog 51 #[.int .i64 n] w fun e w' => e = .returned (.int .i64 (takesZ n)) ∧ Below w.heap.size w w' := by
 by_cases h1 : n < 1
 ·have e1 : decide (n < 1) = true := decide_eq_true h1
  go_enter Tryz.func51, Tryz.ntmps51
  go_upto_region 1 with fail
  refine wp_region_list ?_
  refine wpList_build rfl 154 _ rfl (by kernel_rfl) ?_
  rw [show ((Tryz.prog.built 154 _).getD #[]) = takesA by kernel_rfl]
  go_wp2_with (refine wpList_store_row rfl 154 _ _ rfl w.heap.size takesA rfl rfl 154 _ (heap_alloc_new w _) takesZeros rfl (by kernel_rfl) ?_)
  go_ret
  exact ⟨ret_i (by simp [takesZ, h1]), Below.setRow (by (repeat (with_reducible first | exact Below.refl _ _ | refine Below.setCell ?_ ?_ _ | refine Below.alloc ?_ ?_ _ | refine Below.drewN ?_ _ | refine Below.drew ?_)) <;> first | omega | (simp; omega) | (simp; done)) (Nat.le_refl _)⟩
 by_cases h2 : 18 < n
 ·have e1 : decide (n < 1) = false := decide_eq_false h1
  have e2 : decide (18 < n) = true := decide_eq_true h2
  go_enter Tryz.func51, Tryz.ntmps51
  go_upto_region 1 with fail
  refine wp_region_list ?_
  refine wpList_build rfl 154 _ rfl (by kernel_rfl) ?_
  rw [show ((Tryz.prog.built 154 _).getD #[]) = takesA by kernel_rfl]
  go_wp2_with (refine wpList_store_row rfl 154 _ _ rfl w.heap.size takesA rfl rfl 154 _ (heap_alloc_new w _) takesZeros rfl (by kernel_rfl) ?_)
  go_ret
  exact ⟨ret_i (by simp [takesZ, h2]), Below.setRow (by (repeat (with_reducible first | exact Below.refl _ _ | refine Below.setCell ?_ ?_ _ | refine Below.alloc ?_ ?_ _ | refine Below.drewN ?_ _ | refine Below.drew ?_)) <;> first | omega | (simp; omega) | (simp; done)) (Nat.le_refl _)⟩
 obtain ⟨m, rfl⟩ := Int.eq_ofNat_of_zero_le (show 0 ≤ n by omega)
 have e1 : decide ((m : Int) < 1) = false := decide_eq_false h1
 have e2 : decide ((18 : Int) < (m : Int)) = false := decide_eq_false h2
 have hm : m < 19 := by omega
 have hcell : ((w.alloc (.cells #[.int .i64 0, .int .i64 0, .int .i64 0, .int .i64 0, .int .i64 0, .int .i64 0, .int .i64 0, .int .i64 0, .int .i64 0, .int .i64 0, .int .i64 0, .int .i64 0, .int .i64 0, .int .i64 0, .int .i64 0, .int .i64 0, .int .i64 0, .int .i64 0, .int .i64 0] 154)).setRow w.heap.size takesA).cell? ⟨w.heap.size, m, none⟩ = some (.int .i64 (takesZ m)) :=
  (cell_setRow_same _ _ m _ takesA _ _ (heap_alloc_new w _)).trans (takesA_at m (by omega) (by omega))
 obtain ⟨T, hT⟩ : ∃ T, takesZ m = T := ⟨_, rfl⟩
 rw [hT] at hcell ⊢
 clear hT
 go_enter Tryz.func51, Tryz.ntmps51
 go_upto_region 1 with fail
 refine wp_region_list ?_
 refine wpList_build rfl 154 _ rfl (by kernel_rfl) ?_
 rw [show ((Tryz.prog.built 154 _).getD #[]) = takesA by kernel_rfl]
 go_wp2_with (refine wpList_store_row rfl 154 _ _ rfl w.heap.size takesA rfl rfl 154 _ (heap_alloc_new w _) takesZeros rfl (by kernel_rfl) ?_)
 go_ret
 exact ⟨rfl, Below.setRow (by (repeat (with_reducible first | exact Below.refl _ _ | refine Below.setCell ?_ ?_ _ | refine Below.alloc ?_ ?_ _ | refine Below.drewN ?_ _ | refine Below.drew ?_)) <;> first | omega | (simp; omega) | (simp; done)) (Nat.le_refl _)⟩
set_option maxHeartbeats 2000000 in
theorem rbind_any (v : Int) (kb bb hb n : Nat) (dv cv tv : Value) (vars tops : Int) (st : Bnd) (w : World) (hbt : bb ≠ hb) (hkb : kb ≠ bb) (hkh : kb ≠ hb) (hk : Blk w kb (bndC dv cv tv vars tops bb hb n) 64)
  (hh : Holds w bb hb 4 st) (ho : st.Of n) (hn : n ≤ 1048576) :
  Calls Tryz.prog 52 #[.pointer (some ⟨kb, 0, none⟩), .int .i64 v] w (Ans (st.bind v) bb hb n w) := by
 have k5 : w.cell? ⟨kb, 5, none⟩ = some (.slice (some ⟨hb, 0, none⟩) n n) := (hk.cell 5).trans rfl
 have k6 : w.cell? ⟨kb, 6, none⟩ = some (.slice (some ⟨bb, 0, none⟩) n n) := (hk.cell 6).trans rfl
 have HO := Lib.hid ho
 have HH := Lib.hid hh
 obtain ⟨o, hoo⟩ : ∃ o, st.bind v = o := ⟨_, rfl⟩
 rw [hoo]
 have HOO := Lib.hid hoo
 clear ho hh hoo
 by_cases h0 : 0 ≤ v
 ·obtain ⟨i, rfl⟩ := Int.eq_ofNat_of_zero_le h0
  have e0 : decide ((i : Int) < 0) = false := decide_eq_false (by omega)
  by_cases hi : i < n
  ·have e1 : decide ((n : Int) ≤ (i : Int)) = false := decide_eq_false (by omega)
   obtain ⟨q, hq⟩ : ∃ q, st.been[i]? = some q := ⟨_, List.getElem?_eq_getElem (by rw [HO.out.1]; exact hi)⟩
   obtain ⟨q', hq'⟩ : ∃ q, st.here[i]? = some q := ⟨_, List.getElem?_eq_getElem (by rw [HO.out.2]; exact hi)⟩
   have q5 : w.cell? ⟨bb, i, none⟩ = some (.bool q) := (HH.out.been.cell i).trans (bools_get _ _ _ hq)
   have q6 : w.cell? ⟨hb, i, none⟩ = some (.bool q') := (HH.out.here.cell i).trans (bools_get _ _ _ hq')
   have f5 : w.frozen? ⟨bb, i, none⟩ = false := HH.out.been.free i
   have f6 : w.frozen? ⟨hb, i, none⟩ = false := HH.out.here.free i
   have HQ := Lib.hid hq
   clear hq hq'
   cases q
   ·have hby := Bnd.bind_yes (st := st) (i := i) (by rw [HO.out.1]; exact hi) HQ.out
    have HM := Lib.hid (HOO.out.symm.trans hby)
    have HB := Lib.hid (Bnd.bind_of HO.out hby).1
    clear hby HOO
    go_enter Tryz.func52, Tryz.ntmps52
    go_wp2
    go_ret
    refine ⟨by rw [HM.out]; rfl, ?_, ⟨_, HH.out.setBoth hbt i i true true, HB.out, fun x hx => by rw [HM.out] at hx; injection hx⟩⟩
    exact ((Kept.refl _ _).setX (a := ⟨bb, i, none⟩) (.inl rfl) _).setX (a := ⟨hb, i, none⟩) (.inr rfl) _
   ·have HM := Lib.hid (HOO.out.symm.trans (Bnd.bind_no (by rintro ⟨_, _, h⟩; rw [show ((i : Int).toNat) = i by simp, HQ.out] at h; cases h)))
    clear HOO
    go_enter Tryz.func52, Tryz.ntmps52
    go_wp2
    go_ret
    exact ⟨by rw [HM.out]; rfl, Kept.refl _ _, st, HH.out, HO.out, fun x hx => by rw [HM.out] at hx; cases hx⟩
  ·have e1 : decide ((n : Int) ≤ (i : Int)) = true := decide_eq_true (by omega)
   have HM := Lib.hid (HOO.out.symm.trans (Bnd.bind_no (by rintro ⟨_, h, _⟩; rw [HO.out.1] at h; omega)))
   clear HOO
   go_enter Tryz.func52, Tryz.ntmps52
   go_wp2
   go_ret
   exact ⟨by rw [HM.out]; rfl, Kept.refl _ _, st, HH.out, HO.out, fun x hx => by rw [HM.out] at hx; cases hx⟩
 ·have e0 : decide (v < 0) = true := decide_eq_true (by omega)
  have HM := Lib.hid (HOO.out.symm.trans (Bnd.bind_no (by rintro ⟨h, _, _⟩; omega)))
  clear HOO
  go_enter Tryz.func52, Tryz.ntmps52
  go_wp2
  go_ret
  exact ⟨by rw [HM.out]; rfl, Kept.refl _ _, st, HH.out, HO.out, fun x hx => by rw [HM.out] at hx; cases hx⟩
end Go.Proofs.YtdhodaefgliphaaGreatDoor
namespace Go.Proofs.YtdhodaefgliphaaGreatDoor
open Go.RowKit
set_option maxHeartbeats 1000000 in
theorem rsize_any : ∀ (N : Nat) (t : Ty) (us : List Value) (w : World), t.size ≤ N → t.size ≤ 1048576 → Rds w w.heap.size us t.d →
  Calls Tryz.prog 81 #[.agg us.toArray] w fun e w' => e = .returned (.int .i64 t.size) ∧ Below w.heap.size w w' := by
 intro N
 induction N with
 | zero => intro t us w h; have := size_pos t; omega
 | succ N ih =>
   intro t us w hN hs hus
   have IH := Lib.hid ih
   clear ih
   obtain ⟨v4, rfl, h4, w0, w1, w2, w3⟩ := Ty.cells hus
   have hsz := size_eq t
   obtain ⟨l, hl⟩ : ∃ l, t.l = l := ⟨_, rfl⟩
   rw [hl] at h4 hsz
   have HL := Lib.hid hl
   have hlen : l.length ≤ 1048576 := by have := sizes_len l; omega
   obtain ⟨a, cap, rfl⟩ := h4.slice_inv
   have HS := Lib.hid hsz
   clear hsz hl hus
   go_enter Tryz.func81, Tryz.ntmps81
   go_wp2
   obtain ⟨box, hbox⟩ : ∃ b : Array Value, #[.int .u8 t.kind, .int .i64 t.n, .int .i64 t.v, .int .u8 t.c, .slice a l.length cap] = b := ⟨_, rfl⟩
   have b4 : box[4]? = some (.slice a l.length cap) := by rw [← hbox]; rfl
   obtain ⟨w0', hw0⟩ : ∃ W, w.alloc (.cells box 93) = W := ⟨_, rfl⟩
   have hb0 : Blk w0' w.heap.size box 93 := by rw [← hw0]; exact Blk.new _ _ _ _ rfl
   have hl0 : Below w.heap.size w w0' := by rw [← hw0]; exact (Below.refl _ _).alloc (Nat.le_refl _) _
   have HI0 := Lib.hid (⟨hl0, hb0⟩ : Below w.heap.size w w0' ∧ Blk w0' w.heap.size box 93)
   rw [hbox, hw0]
   clear hbox hw0 hb0 hl0
   go_loopw [3, 4] (fun u3 u9 wr => ∃ k acc : Nat, k ≤ l.length ∧ u9 = .int .i64 k ∧ u3 = .int .i64 acc ∧ acc ≤ t.size ∧ Hid (acc + Ty.size.sizes (l.drop k) = t.size) ∧ Hid (Below w.heap.size w wr ∧ Blk wr w.heap.size box 93)) (fun _ u _ => l.length - (intOf u).toNat)
   case atStart => exact ⟨0, 1, Nat.zero_le _, rfl, rfl, size_pos t, HS.out.symm, HI0⟩
   case round =>
    obtain ⟨k, acc, hk, rfl, rfl, hacc, HE, HI⟩ := hrel
    have hbel := HI.out.1
    have hsz0 := hbel.size
    have x4 : wr.cell? ⟨w.heap.size, 4, none⟩ = some (.slice a l.length cap) := (HI.out.2.cell 4).trans b4
    by_cases hlt : k < l.length
    ·obtain ⟨b, off, cap', us, hv, hb, hc, hcell, hus⟩ := h4.elem Ty.d_len rfl k hlt (by omega)
     injection hv with ha hn' hcap
     subst ha hcap
     have hsub : l[k].size + Ty.size.sizes (l.drop (k + 1)) + acc = t.size := by rw [← HE.out, sizes_drop l k hlt]; omega
     have hN' : l[k].size ≤ N ∧ acc + l[k].size ≤ t.size := ⟨by have := sizes_get l k hlt; have := HS.out; omega, by omega⟩
     have HS' := Lib.hid hsub
     clear hsub
     obtain ⟨v4', hus', h4', x0, x1, x2, x3⟩ := Ty.cells hus
     have HC := Lib.hid (IH.out l[k] us wr hN'.1 (by omega) ((hus.keep hbel).mono hbel.size))
     obtain ⟨a2, cap2, rfl⟩ := h4'.slice_inv
     subst hus'
     have c0 := (hbel.cell (p := ⟨b, off + k * 5, none⟩) hb).trans (hcell 0 _ rfl)
     have c1 := (hbel.cell (p := ⟨b, off + k * 5 + 1, none⟩) hb).trans (hcell 1 _ rfl)
     have c2 := (hbel.cell (p := ⟨b, off + k * 5 + 2, none⟩) hb).trans (hcell 2 _ rfl)
     have c3 := (hbel.cell (p := ⟨b, off + k * 5 + 3, none⟩) hb).trans (hcell 3 _ rfl)
     have c4 := (hbel.cell (p := ⟨b, off + k * 5 + 4, none⟩) hb).trans (hcell 4 _ rfl)
     clear hcell
     go_wp2_with fail
     refine HC.out.mono ?_
     rintro e w2 ⟨rfl, hb2⟩
     have HI2 := Lib.hid (⟨hbel.trans (hb2.mono hsz0), HI.out.2.below hb2 HI.out.2.lt⟩ : Below w.heap.size w w2 ∧ Blk w2 w.heap.size box 93)
     go_wp2
     go_roundw
     case rel => exact ⟨k + 1, acc + l[k].size, hlt, by go_num, by go_num, hN'.2, by show _ = _; have := HS'.out; omega, HI2⟩
     case measure => simp [intOf]; omega
    ·go_wp2
     go_ret
     exact ⟨ret_i (by have := HE.out; rw [sizes_end l k (by omega)] at this; omega), hbel⟩
theorem str_ne {a b : ByteArray} (h : a ≠ b) : (a.toList == b.toList) = false := by
 rw [ByteArray.toList_eq, ByteArray.toList_eq]
 simp only [beq_eq_false_iff_ne, ne_eq]
 intro e
 exact h (by cases a; cases b; simp_all)
def FirstAt (names : List ByteArray) (nm : ByteArray) (z : Int) : Prop :=
 (∃ k, ∃ h : k < names.length, z = (k : Int) ∧ names[k] = nm ∧ ∀ j (hj : j < k), names[j]'(by omega) ≠ nm) ∨ (z = -1 ∧ ∀ j (hj : j < names.length), names[j] ≠ nm)
set_option maxHeartbeats 1000000 in
theorem rcon_any (s : Sig) (us : List Value) (nm : ByteArray) (w : World) (hl : s.cons.length ≤ 1048576) (hus : Rds w w.heap.size us s.d) :
  Calls Tryz.prog 47 #[.agg us.toArray, .string nm] w fun e w' => (∃ z, e = .returned (.int .i64 z) ∧ FirstAt (s.cons.map Con.name) nm z) ∧ Below w.heap.size w w' := by
 obtain ⟨v0, v1, rfl, g0, g1⟩ := Sig.cells hus
 obtain ⟨a0, cap0, rfl⟩ := g0.slice_inv
 obtain ⟨a1, cap1, rfl⟩ := g1.slice_inv
 have G := Lib.hid g1
 clear hus g0 g1
 go_enter Tryz.func47, Tryz.ntmps47
 go_wp2
 obtain ⟨box, hbox⟩ : ∃ b : Array Value, #[.slice a0 s.datas.length cap0, .slice a1 s.cons.length cap1] = b := ⟨_, rfl⟩
 have b4 : box[1]? = some (.slice a1 s.cons.length cap1) := by rw [← hbox]; rfl
 obtain ⟨w0', hw0⟩ : ∃ W, w.alloc (.cells box 25) = W := ⟨_, rfl⟩
 have hb0 : Blk w0' w.heap.size box 25 := by rw [← hw0]; exact Blk.new _ _ _ _ rfl
 have hl0 : Below w.heap.size w w0' := by rw [← hw0]; exact (Below.refl _ _).alloc (Nat.le_refl _) _
 have x4 : w0'.cell? ⟨w.heap.size, 1, none⟩ = some (.slice a1 s.cons.length cap1) := (hb0.cell 1).trans b4
 rw [hbox, hw0]
 clear hbox hw0
 go_loopw [5] (fun u wr => ∃ k : Nat, k ≤ s.cons.length ∧ u = .int .i64 k ∧ wr = w0' ∧ Hid (∀ j (hj : j < k) (hj2 : j < s.cons.length), s.cons[j].name ≠ nm)) (fun u _ => s.cons.length - (intOf u).toNat)
 case atStart => exact ⟨0, Nat.zero_le _, rfl, rfl, Lib.hid fun j hj => absurd hj (Nat.not_lt_zero _)⟩
 case round =>
  obtain ⟨k, hk, rfl, rfl, HN⟩ := hrel
  have hsz := hl0.size
  by_cases hlt : k < s.cons.length
  ·obtain ⟨b, off, cap', us, hv, hblt, hc, hcell, hus⟩ := G.out.elem Con.d_len rfl k hlt (by omega)
   injection hv with ha hn' hcap
   subst ha hcap
   have c0 := (hl0.cell (p := ⟨b, off + k * 4, none⟩) hblt).trans (hcell 0 (.string (s.cons[k]).name) (by first | (obtain ⟨q2, q3, rfl, -, -, -, -⟩ := Con.cells hus; rfl) | (obtain ⟨q2, rfl, -⟩ := Con.cells hus; rfl)))
   obtain ⟨x, hx⟩ : ∃ x, (s.cons[k]).name = x := ⟨_, rfl⟩
   rw [hx] at c0
   have HX := Lib.hid hx
   clear hcell hus hx
   by_cases hxe : x = nm
   ·subst hxe
    have hfin : FirstAt (s.cons.map Con.name) x (k : Int) := .inl ⟨k, by simpa using hlt, rfl, by simpa using HX.out, fun j hj => by simpa using HN.out j hj (by omega)⟩
    have HF := Lib.hid hfin
    clear hfin
    go_wp2
    go_ret
    exact ⟨⟨_, rfl, HF.out⟩, hl0⟩
   ·have HN2 : Hid (∀ j (hj : j < k + 1) (hj2 : j < s.cons.length), s.cons[j].name ≠ nm) := Lib.hid fun j hj hj2 => by
     rcases Nat.lt_succ_iff_lt_or_eq.1 hj with h | rfl
     ·exact HN.out j h hj2
     ·rw [HX.out]; exact hxe
    have tx := str_ne hxe
    clear hxe
    go_wp2
    go_roundw
    case rel => exact ⟨k + 1, hlt, by go_num, by simp, HN2⟩
    case measure => simp [intOf]; omega
  ·have HF := Lib.hid (show FirstAt (s.cons.map Con.name) nm (-1) from .inr ⟨rfl, fun j hj => by simpa using HN.out j (by simp at hj; omega) (by simpa using hj)⟩)
   go_wp2
   go_ret
   exact ⟨⟨_, rfl, HF.out⟩, hl0⟩
set_option maxHeartbeats 1000000 in
theorem rdata_any (s : Sig) (us : List Value) (nm : ByteArray) (w : World) (hl : s.datas.length ≤ 1048576) (hus : Rds w w.heap.size us s.d) :
  Calls Tryz.prog 50 #[.agg us.toArray, .string nm] w fun e w' => (∃ z, e = .returned (.int .i64 z) ∧ FirstAt (s.datas.map Data.name) nm z) ∧ Below w.heap.size w w' := by
 obtain ⟨v0, v1, rfl, g0, g1⟩ := Sig.cells hus
 obtain ⟨a0, cap0, rfl⟩ := g0.slice_inv
 obtain ⟨a1, cap1, rfl⟩ := g1.slice_inv
 have G := Lib.hid g0
 clear hus g0 g1
 go_enter Tryz.func50, Tryz.ntmps50
 go_wp2
 obtain ⟨box, hbox⟩ : ∃ b : Array Value, #[.slice a0 s.datas.length cap0, .slice a1 s.cons.length cap1] = b := ⟨_, rfl⟩
 have b4 : box[0]? = some (.slice a0 s.datas.length cap0) := by rw [← hbox]; rfl
 obtain ⟨w0', hw0⟩ : ∃ W, w.alloc (.cells box 25) = W := ⟨_, rfl⟩
 have hb0 : Blk w0' w.heap.size box 25 := by rw [← hw0]; exact Blk.new _ _ _ _ rfl
 have hl0 : Below w.heap.size w w0' := by rw [← hw0]; exact (Below.refl _ _).alloc (Nat.le_refl _) _
 have x4 : w0'.cell? ⟨w.heap.size, 0, none⟩ = some (.slice a0 s.datas.length cap0) := (hb0.cell 0).trans b4
 rw [hbox, hw0]
 clear hbox hw0
 go_loopw [5] (fun u wr => ∃ k : Nat, k ≤ s.datas.length ∧ u = .int .i64 k ∧ wr = w0' ∧ Hid (∀ j (hj : j < k) (hj2 : j < s.datas.length), s.datas[j].name ≠ nm)) (fun u _ => s.datas.length - (intOf u).toNat)
 case atStart => exact ⟨0, Nat.zero_le _, rfl, rfl, Lib.hid fun j hj => absurd hj (Nat.not_lt_zero _)⟩
 case round =>
  obtain ⟨k, hk, rfl, rfl, HN⟩ := hrel
  have hsz := hl0.size
  by_cases hlt : k < s.datas.length
  ·obtain ⟨b, off, cap', us, hv, hblt, hc, hcell, hus⟩ := G.out.elem Data.d_len rfl k hlt (by omega)
   injection hv with ha hn' hcap
   subst ha hcap
   have c0 := (hl0.cell (p := ⟨b, off + k * 3, none⟩) hblt).trans (hcell 0 (.string (s.datas[k]).name) (by first | (obtain ⟨q2, q3, rfl, -, -, -, -⟩ := Data.cells hus; rfl) | (obtain ⟨q2, rfl, -⟩ := Data.cells hus; rfl)))
   obtain ⟨x, hx⟩ : ∃ x, (s.datas[k]).name = x := ⟨_, rfl⟩
   rw [hx] at c0
   have HX := Lib.hid hx
   clear hcell hus hx
   by_cases hxe : x = nm
   ·subst hxe
    have hfin : FirstAt (s.datas.map Data.name) x (k : Int) := .inl ⟨k, by simpa using hlt, rfl, by simpa using HX.out, fun j hj => by simpa using HN.out j hj (by omega)⟩
    have HF := Lib.hid hfin
    clear hfin
    go_wp2
    go_ret
    exact ⟨⟨_, rfl, HF.out⟩, hl0⟩
   ·have HN2 : Hid (∀ j (hj : j < k + 1) (hj2 : j < s.datas.length), s.datas[j].name ≠ nm) := Lib.hid fun j hj hj2 => by
     rcases Nat.lt_succ_iff_lt_or_eq.1 hj with h | rfl
     ·exact HN.out j h hj2
     ·rw [HX.out]; exact hxe
    have tx := str_ne hxe
    clear hxe
    go_wp2
    go_roundw
    case rel => exact ⟨k + 1, hlt, by go_num, by simp, HN2⟩
    case measure => simp [intOf]; omega
  ·have HF := Lib.hid (show FirstAt (s.datas.map Data.name) nm (-1) from .inr ⟨rfl, fun j hj => by simpa using HN.out j (by simp at hj; omega) (by simpa using hj)⟩)
   go_wp2
   go_ret
   exact ⟨⟨_, rfl, HF.out⟩, hl0⟩
end Go.Proofs.YtdhodaefgliphaaGreatDoor
