/- Contract: lex.one: a token as it is written. -/
import Derived.Test.YtaojgcioljcpmaaGreatDoorOne
import Derived.Deep.RegionHeld3
import Derived.Lib.AppendIntMem
namespace Go.Proofs.YtaojgcioljcpmaaGreatDoor
open Go.RowKit

theorem held_alloc {W0 w : World} {a : Addr} {x : Value} (ha : a.block < W0.heap.size) (h : w.cell? a = some x ∧ Below W0.heap.size W0 w) (o : Obj) : (w.alloc o).cell? a = some x ∧ Below W0.heap.size W0 (w.alloc o) := by
  have hs := h.2.size
  refine ⟨?_, h.2.alloc hs o⟩
  have hb : Below w.heap.size w (w.alloc o) := (Below.refl _ _).alloc (Nat.le_refl _) _
  exact (hb.cell (by omega)).trans h.1
theorem held_low {W0 w v : World} {a : Addr} {x : Value} {B : Nat} (hB : W0.heap.size ≤ B) (ha : a.block < W0.heap.size) (h : w.cell? a = some x ∧ Below W0.heap.size W0 w) (hb : Below B w v) : v.cell? a = some x ∧ Below W0.heap.size W0 v := 
  ⟨(hb.cell (by omega)).trans h.1, h.2.trans (hb.mono hB)⟩
theorem strAt_new (v : World) : StrAt (v.alloc (.cells #[.string ⟨#[92]⟩, .string ⟨#[92, 92]⟩, .string ⟨#[34]⟩, .string ⟨#[92, 34]⟩, .string ⟨#[10]⟩, .string ⟨#[92, 110]⟩, .string ⟨#[9]⟩, .string ⟨#[92, 116]⟩] 9)) v.heap.size pairs := by
  refine ⟨by simp, fun j x hj => ?_⟩
  rw [Lib.cell_of_heap (heap_alloc_new v _) j]
  have hl : #[Value.string ⟨#[92]⟩, .string ⟨#[92, 92]⟩, .string ⟨#[34]⟩, .string ⟨#[92, 34]⟩, .string ⟨#[10]⟩, .string ⟨#[92, 110]⟩, .string ⟨#[9]⟩, .string ⟨#[92, 116]⟩] = (pairs.map fun x => Value.string ⟨x.toArray⟩).toArray := rfl
  rw [hl, List.getElem?_toArray, List.getElem?_map, hj]
  rfl
theorem strAt_drew {w : World} {A : Nat} {l : List (List UInt8)} (h : StrAt w A l) : StrAt w.drew A l := h
def Rep2 (w : World) (rb D N : Nat) : Prop := FreshRep w rb D ∧ N ≤ rb
theorem Rep2.drew {w : World} {rb D N : Nat} (h : Rep2 w rb D N) : Rep2 w.drew rb D N := h
theorem esc_le (l : List UInt8) : (l.flatMap T.esc).length ≤ 2 * l.length := by
  rw [escs_len]
  have : cnt4 l ≤ l.length := List.countP_le_length
  omega

set_option maxRecDepth 50000 in
set_option maxHeartbeats 4000000 in
theorem one_any (G : Nat) (t : T.Tok) (w : World) (hT : Tabs G w) (hl : t.t.length ≤ 1048576) (hn : -9223372036854775808 ≤ t.n ∧ t.n ≤ 9223372036854775807) :
    Calls Tryz.prog 28 #[tokV t] w fun e w' => e = .returned (.string ⟨(T.one t).toArray⟩) ∧ Below w.heap.size w w' := by
  obtain ⟨k, tt, n, ⟨pa, pl, pc⟩⟩ := t
  simp only at hl hn
  show Calls Tryz.prog _ #[.agg #[.int .u8 k, .string ⟨tt.toArray⟩, .int .i64 n, .int .i64 pa, .int .i64 pl, .int .i64 pc]] w _
  by_cases h3 : k = 3
  · subst h3
    have hF := fun (W : World) (hW : Below w.heap.size w W) => Tryz.strconv_FormatInt_10 n hn.1 hn.2 W (hT.below (hW.mono hT.le)).now.pow
    have HF := Lib.hid hF
    clear hF hT hn
    go_enter Tryz.func28, Tryz.ntmps28
    go_wp2_with (go_at_call 41; refine (HF.out _ ((Below.refl _ _).alloc (Nat.le_refl _) _)).mono ?_; rintro e w1 ⟨rfl, kk, os, rfl⟩)
    go_ret
    refine ⟨rfl, ?_⟩
    exact ((Below.refl w.heap.size w).alloc (Nat.le_refl _) _).trans (Lib.below_grow _ _ (by simp) _ _)
  · by_cases h4 : k = 4
    · subst h4
      obtain ⟨X, hX⟩ : ∃ X, tt.flatMap T.esc = X := ⟨_, rfl⟩
      have hXl : X.length ≤ 2097152 := by rw [← hX]; exact Nat.le_trans (esc_le tt) (by omega)
      have hrp : ∀ (rb D N : Nat) (W : World), Rep2 W rb D N → Calls Tryz.prog 43 #[.pointer (some ⟨rb, 0, none⟩), .string ⟨tt.toArray⟩] W fun e w' => e = .returned (.string ⟨X.toArray⟩) ∧ Below N W w' := by
        intro rb D N W hR
        have := replace_any rb D W hR.1 ⟨tt.toArray⟩ (by show tt.toArray.size ≤ _; rw [List.size_toArray]; exact hl)
        have e : (⟨tt.toArray⟩ : ByteArray).data.toList = tt := rfl
        rw [e, hX] at this
        exact this.mono fun e w' h => ⟨h.1, h.2.mono hR.2⟩
      have HRP := Lib.hid hrp
      have HX := Lib.hid hX
      clear hrp hX hT hn
      obtain ⟨W0, hW0⟩ : ∃ W0, w.alloc (.cells #[.int .u8 4, .string ⟨tt.toArray⟩, .int .i64 n, .int .i64 pa, .int .i64 pl, .int .i64 pc] 42) = W0 := ⟨_, rfl⟩
      have x0 : W0.cell? ⟨w.heap.size, 0, none⟩ = some (.int .u8 4) := by rw [← hW0, Lib.cell_of_heap (heap_alloc_new w _)]; rfl
      have x1 : W0.cell? ⟨w.heap.size, 1, none⟩ = some (.string ⟨tt.toArray⟩) := by rw [← hW0, Lib.cell_of_heap (heap_alloc_new w _)]; rfl
      have hW : Below w.heap.size w W0 := by rw [← hW0]; exact (Below.refl _ _).alloc (Nat.le_refl _) _
      have htb : w.heap.size < W0.heap.size := by rw [← hW0]; simp
      have HW := Lib.hid hW
      clear hW
      go_enter Tryz.func28, Tryz.ntmps28
      go_wp2_with fail
      clear hW0 x0
      have hj1 : ¬ 9223372036854775807 < 1 + X.length := by omega
      have hj2 : ¬ 9223372036854775807 < 1 + X.length + 1 := by omega
      go_region_held3 (fun w' => w'.cell? ⟨w.heap.size, 1, none⟩ = some (.string ⟨tt.toArray⟩) ∧ Below W0.heap.size W0 w') (first | assumption | exact ⟨x1, Below.refl _ _⟩ | exact held_drew ⟨x1, Below.refl _ _⟩ | exact held_drew (by assumption) | exact held_alloc htb (by assumption) _ | exact held_alloc htb (held_drew (by assumption)) _ | exact held_next htb ‹_ ∧ Below W0.heap.size W0 _› ‹Below _ _ _› | exact held_next htb (held_drew ‹_ ∧ Below W0.heap.size W0 _›) ‹Below _ _ _› | exact held_low (Nat.le_refl _) htb ‹_ ∧ Below W0.heap.size W0 _› ‹Below W0.heap.size _ _› | exact held_low (Nat.le_refl _) htb (held_drew ‹_ ∧ Below W0.heap.size W0 _›) ‹Below W0.heap.size _ _›) (first | (go_at_call 42; refine (newrep_any _ _ (by first | exact strAt_new _ | exact strAt_drew (strAt_new _))).mono ?_; rintro _ w2 ⟨rb, D, rfl, hfr, hrb, hb2⟩; have hR2 : Rep2 w2 rb D W0.heap.size := ⟨hfr, by simp at hrb; omega⟩; clear hfr hrb) | (go_at_call 43; refine (HRP.out _ _ W0.heap.size _ (by first | assumption | exact Rep2.drew (by assumption))).mono ?_; rintro _ w3 ⟨rfl, hb3⟩))
      all_goals
        go_wp2
        go_ret
        have hS := ‹_ ∧ Below W0.heap.size W0 _›
        refine ⟨?_, HW.out.trans (hS.2.mono (by omega))⟩
        refine ret_s (a := ⟨#[34]⟩ ++ ⟨X.toArray⟩ ++ ⟨#[34]⟩) ?_
        show _ = (⟨(34 :: (tt.flatMap T.esc ++ [34])).toArray⟩ : ByteArray)
        rw [HX.out]
        apply ByteArray.ext
        apply Array.toList_inj.1
        simp [ByteArray.data_append]
    · have hk3 : (k == 3) = false := by rw [beq_eq_false_iff_ne]; exact h3
      have hk4 : (k == 4) = false := by rw [beq_eq_false_iff_ne]; exact h4
      rw [T.one_text ⟨k, tt, n, ⟨pa, pl, pc⟩⟩ h3 h4]
      clear hT hn
      go_enter Tryz.func28, Tryz.ntmps28
      go_wp2
      go_ret
      exact ⟨rfl, (Below.refl _ _).alloc (Nat.le_refl _) _⟩
end Go.Proofs.YtaojgcioljcpmaaGreatDoor
