/- Contracts: the words, the primitives, the signs; a word. -/
import Derived.Test.YtaojgcioljcpmaaGreatDoorLexC
import Derived.Test.YtaojgcioljcpmaaGreatDoorTab
namespace Go.Proofs.YtaojgcioljcpmaaGreatDoor
open Go.RowKit

/-- a row of texts in memory -/
def StrAt (w : World) (A : Nat) (l : List (List UInt8)) : Prop := A < w.heap.size ∧ ∀ j x, l[j]? = some x → w.cell? ⟨A, j, none⟩ = some (.string ⟨x.toArray⟩)
theorem StrAt.below {w w' : World} {A : Nat} {l : List (List UInt8)} (h : StrAt w A l) (hb : Below w.heap.size w w') : StrAt w' A l :=
  ⟨Nat.lt_of_lt_of_le h.1 hb.size, fun j x hj => (hb.cell (p := ⟨A, j, none⟩) h.1).trans (h.2 j x hj)⟩
theorem strAt_of_own {w : World} {B A : Nat} {l : List (List UInt8)} (h : w.ownsRow B 9 1 (.slice (some ⟨A, 0, none⟩) l.length l.length) l.length (l.map fun x => Value.string ⟨x.toArray⟩)) : StrAt w A l := by
  have hc := h.cells (g := A) rfl
  refine ⟨?_, fun j x hj => ?_⟩
  · rcases h.2 with ⟨h0, _⟩ | ⟨g, cap, cur, hv, _, hg, _⟩
    · cases h0
    · injection hv with h1
      injection h1 with h1
      injection h1 with h1
      subst h1
      exact lt_of_heap hg
  · have := hc j (.string ⟨x.toArray⟩) (by simp [hj])
    have hadd : (⟨A, 0, none⟩ : Addr).add j = ⟨A, j, none⟩ := by unfold Addr.add; split <;> simp_all
    rwa [hadd] at this
/-- is a text among these? -/
theorem contains_any {w : World} {A : Nat} {l : List (List UInt8)} (h : StrAt w A l) (n : Nat) (hn : n = l.length) (hl : l.length ≤ 1000) (x : List UInt8) :
    Calls Tryz.prog 80 #[.slice (some ⟨A, 0, none⟩) n n, .string ⟨x.toArray⟩] w fun e w' => e = .returned (.bool (l.contains x)) ∧ w' = w := by
  subst hn
  have hlen : (l.map fun y => (⟨y.toArray⟩ : ByteArray)).length = l.length := List.length_map _
  have := Tryz.slices_Contains_string A 0 l.length l.length (l.map fun y => (⟨y.toArray⟩ : ByteArray)) ⟨x.toArray⟩ w (by rw [hlen]; exact Nat.le_refl _) (by omega) (fun j hj => by
    rw [hlen] at hj
    rw [Nat.zero_add, h.2 j l[j] (List.getElem?_eq_getElem hj)]
    simp [List.getD_eq_getElem?_getD, List.getElem?_map, List.getElem?_eq_getElem hj])
  have e : Lib.containsS ((l.map fun y => (⟨y.toArray⟩ : ByteArray)).take l.length) ⟨x.toArray⟩ = l.contains x := by
    rw [List.take_of_length_le (by rw [hlen]; exact Nat.le_refl _)]
    rw [Bool.eq_iff_iff, Lib.containsS_iff, List.contains_iff_mem, List.mem_map]
    constructor
    · rintro ⟨y, hy, hyx⟩
      have h1 := congrArg (fun s : ByteArray => s.data.toList) hyx
      simp only at h1
      rw [← h1]; exact hy
    · intro hx
      exact ⟨x, hx, rfl⟩
  rw [e] at this
  exact this

theorem fields_words : Lib.fieldsD (⟨#[108, 101, 116, 32, 114, 101, 99, 32, 105, 110, 32, 99, 97, 115, 101, 32, 111, 102, 32, 100, 97, 116, 97]⟩ : ByteArray).data.toList = T.words := by kernel_rfl
set_option maxHeartbeats 1000000 in
theorem words_any (G : Nat) (w : World) (hT : Tabs G w) :
    Calls Tryz.prog 19 #[] w fun e w' => ∃ A, e = .returned (.slice (some ⟨A, 0, none⟩) 6 6) ∧ w.heap.size ≤ A ∧ StrAt w' A T.words ∧ Below w.heap.size w w' := by
  have hc := Tryz.strings_Fields_any ⟨#[108, 101, 116, 32, 114, 101, 99, 32, 105, 110, 32, 99, 97, 115, 101, 32, 111, 102, 32, 100, 97, 116, 97]⟩ w (by decide) hT.now.space hT.now.white
  rw [fields_words] at hc
  have HC := Lib.hid hc
  clear hc
  go_enter Tryz.func19, Tryz.ntmps19
  go_wp2_with (go_at_call 36; refine HC.out.mono ?_; rintro _ w2 ⟨A, rfl, hA, hown, hb⟩)
  go_wp2
  go_ret
  exact ⟨A, rfl, hA, strAt_of_own hown, hb⟩

theorem fields_prims : Lib.fieldsD (⟨#[111, 112, 101, 110, 32, 114, 101, 97, 100, 32, 119, 114, 105, 116, 101, 32, 99, 108, 111, 115, 101, 32, 97, 114, 114, 97, 121, 32, 103, 101, 116, 32, 115, 101, 116, 32, 115, 105, 122, 101, 32, 102, 97, 105, 108, 32, 108, 101, 110]⟩ : ByteArray).data.toList = T.prims := by kernel_rfl
set_option maxHeartbeats 1000000 in
theorem prims_any (G : Nat) (w : World) (hT : Tabs G w) :
    Calls Tryz.prog 21 #[] w fun e w' => ∃ A, e = .returned (.slice (some ⟨A, 0, none⟩) 10 10) ∧ w.heap.size ≤ A ∧ StrAt w' A T.prims ∧ Below w.heap.size w w' := by
  have hc := Tryz.strings_Fields_any ⟨#[111, 112, 101, 110, 32, 114, 101, 97, 100, 32, 119, 114, 105, 116, 101, 32, 99, 108, 111, 115, 101, 32, 97, 114, 114, 97, 121, 32, 103, 101, 116, 32, 115, 101, 116, 32, 115, 105, 122, 101, 32, 102, 97, 105, 108, 32, 108, 101, 110]⟩ w (by decide) hT.now.space hT.now.white
  rw [fields_prims] at hc
  have HC := Lib.hid hc
  clear hc
  go_enter Tryz.func21, Tryz.ntmps21
  go_wp2_with (go_at_call 36; refine HC.out.mono ?_; rintro _ w2 ⟨A, rfl, hA, hown, hb⟩)
  go_wp2
  go_ret
  exact ⟨A, rfl, hA, strAt_of_own hown, hb⟩

theorem fields_signs : Lib.fieldsD (⟨#[92, 32, 45, 62, 32, 45, 49, 62, 32, 45, 63, 62, 32, 45, 42, 62, 32, 61, 32, 61, 61, 32, 59, 32, 123, 32, 125, 32, 40, 32, 41, 32, 124, 32, 60, 32, 43, 43, 32, 43, 32, 45, 32, 42, 32, 47, 32, 37, 32, 95, 32, 63]⟩ : ByteArray).data.toList = T.signs := by kernel_rfl
set_option maxHeartbeats 1000000 in
theorem signs_any (G : Nat) (w : World) (hT : Tabs G w) :
    Calls Tryz.prog 23 #[] w fun e w' => ∃ A, e = .returned (.slice (some ⟨A, 0, none⟩) 22 22) ∧ w.heap.size ≤ A ∧ StrAt w' A T.signs ∧ Below w.heap.size w w' := by
  have hc := Tryz.strings_Fields_any ⟨#[92, 32, 45, 62, 32, 45, 49, 62, 32, 45, 63, 62, 32, 45, 42, 62, 32, 61, 32, 61, 61, 32, 59, 32, 123, 32, 125, 32, 40, 32, 41, 32, 124, 32, 60, 32, 43, 43, 32, 43, 32, 45, 32, 42, 32, 47, 32, 37, 32, 95, 32, 63]⟩ w (by decide) hT.now.space hT.now.white
  rw [fields_signs] at hc
  have HC := Lib.hid hc
  clear hc
  go_enter Tryz.func23, Tryz.ntmps23
  go_wp2_with (go_at_call 36; refine HC.out.mono ?_; rintro _ w2 ⟨A, rfl, hA, hown, hb⟩)
  go_wp2
  go_ret
  exact ⟨A, rfl, hA, strAt_of_own hown, hb⟩
end Go.Proofs.YtaojgcioljcpmaaGreatDoor
