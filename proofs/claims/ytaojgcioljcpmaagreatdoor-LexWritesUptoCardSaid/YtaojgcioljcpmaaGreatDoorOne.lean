/- Contracts: strings.NewReplacer at the four pairs; lex.whole. -/
import Derived.Test.YtaojgcioljcpmaaGreatDoorRepE
import Derived.Test.YtaojgcioljcpmaaGreatDoorVal
import Derived.Test.YtaojgcioljcpmaaGreatDoorLexM
import Derived.Test.YtaojgcioljcpmaaGreatDoorLexU
namespace Go.Proofs.YtaojgcioljcpmaaGreatDoor
open Go.RowKit

theorem string_list (t : ByteArray) : ∃ l : List UInt8, t = ⟨l.toArray⟩ := ⟨t.data.toList, rfl⟩
theorem whole_any (G : Nat) (s : ByteArray) (w : World) (hs : s.size ≤ 1000000000) (hT : Tabs G w) :
    Calls Tryz.prog 40 #[.string s] w fun e w' => e = .returned (.bool (T.whole s.data.toList)) ∧ Below w.heap.size w w' := by
  have hl : ∃ l : List UInt8, s = ⟨l.toArray⟩ := ⟨s.data.toList, rfl⟩
  obtain ⟨l, rfl⟩ := hl
  have hV := valid_any _ w hs hT.now.utf hT.now.size
  have HV := Lib.hid hV
  clear hV hT
  cases hw : T.whole (⟨l.toArray⟩ : ByteArray).data.toList with
  | true =>
    have HW := Lib.hid hw
    clear hw
    go_enter Tryz.func40, Tryz.ntmps40
    go_wp2_with (go_at_call 64; refine HV.out.mono ?_; rintro e w1 ⟨⟨t, rfl, h1, h2⟩, hb⟩; have ht := h1 HW.out; subst ht; clear h1 h2)
    go_ret
    exact ⟨rfl, hb⟩
  | false =>
    have HW := Lib.hid hw
    clear hw
    go_enter Tryz.func40, Tryz.ntmps40
    go_wp2_with (go_at_call 64; refine HV.out.mono ?_; rintro e w1 ⟨⟨t, rfl, h1, h2⟩, hb⟩; obtain ⟨t, rfl⟩ := string_list t; have ht := h2 HW.out; have hne : (t == l) = false := (by rw [beq_eq_false_iff_ne]; intro he; rw [he] at ht; omega); clear h1 h2 ht)
    go_ret
    exact ⟨rfl, hb⟩

set_option maxRecDepth 50000 in
set_option maxHeartbeats 1000000 in
theorem newrep_any (A : Nat) (w : World) (hs : StrAt w A pairs) :
    Calls Tryz.prog 42 #[.slice (some ⟨A, 0, none⟩) 8 8] w fun e w' => ∃ rb D, e = .returned (.pointer (some ⟨rb, 0, none⟩)) ∧ FreshRep w' rb D ∧ w.heap.size ≤ rb ∧ Below w.heap.size w w' := by
  have HS := Lib.hid hs
  obtain ⟨is0, his, hs0, hs1, hs2⟩ := info_parts infoStr
  clear hs
  go_enter Tryz.func42, Tryz.ntmps42
  go_wp2_with (at_builtin; refine wpList_append_own _ rfl _ _ 36 rfl w.heap.size 9 is0 (.string ByteArray.empty) 1 16 Tryz.underlying36 his hs0 hs1 hs2 rfl (by decide) _ _ _ rfl (World.ownsRow_nil _ _ _ _) ⟨A, 0, none⟩ 8 8 (pairs.map fun x => Value.string ⟨x.toArray⟩) rfl rfl ?c1 ?c2 ?c3 ?c4 ?c5 ?_)
  case c1 =>
    intro j u hj
    rw [List.getElem?_map, Option.map_eq_some_iff] at hj
    obtain ⟨y, hy, rfl⟩ := hj
    have hadd : (⟨A, 0, none⟩ : Addr).add j = ⟨A, j, none⟩ := by unfold Addr.add; split <;> simp_all
    rw [hadd]
    exact HS.out.2 j y hy
  case c2 => intro u hu; obtain ⟨y, _, rfl⟩ := List.mem_map.1 hu; rfl
  case c3 => unfold maxLen; omega
  case c4 => omega
  case c5 => simp
  intro v' w1 hown hgrow _
  have hb1 : Below w.heap.size w w1 := (Below.refl w.heap.size w).grown hgrow (Nat.le_refl _) (fun k hk => by simp [Value.ownBlock] at hk)
  obtain ⟨g, cap, rfl, hg8, hst⟩ : ∃ g cap, v' = .slice (some ⟨g, 0, none⟩) 8 cap ∧ g < w1.heap.size ∧ StrAt w1 g pairs := by
    rcases hown.2 with ⟨_, h0⟩ | ⟨g, cap, cur, hv, hbg, hg, _⟩
    · cases h0
    · refine ⟨g, cap, hv, lt_of_heap hg, lt_of_heap hg, fun j x hj => ?_⟩
      have := hown.cells (g := g) (by rw [hv]; rfl) j (.string ⟨x.toArray⟩) (by rw [List.getElem?_map, hj]; rfl)
      have hadd : (⟨g, 0, none⟩ : Addr).add j = ⟨g, j, none⟩ := by unfold Addr.add; split <;> simp_all
      rwa [hadd] at this
  have HST := Lib.hid hst
  have HB1 := Lib.hid hb1
  have hs1 := hb1.size
  clear hst hown hgrow hb1
  go_wp2
  go_ret
  have hbk := heap_alloc_new w1 (.cells #[.int .u32 0, .int .i32 0, .int .u32 0, .nilIface, .slice (some ⟨g, 0, none⟩) 8 cap] 117)
  have hc : ∀ j, (w1.alloc (.cells #[.int .u32 0, .int .i32 0, .int .u32 0, .nilIface, .slice (some ⟨g, 0, none⟩) 8 cap] 117)).cell? ⟨w1.heap.size, j, none⟩ = _ := fun j => Lib.cell_of_heap hbk j
  refine ⟨w1.heap.size, g, rfl, ⟨by simp, hc 0, hc 1, ⟨_, hc 3⟩, ⟨cap, hc 4⟩, fun j => Lib.frozen_of_heap hbk j, HST.out.below ((Below.refl _ _).alloc (Nat.le_refl _) _), by omega⟩, hs1, HB1.out.alloc hs1 _⟩
end Go.Proofs.YtaojgcioljcpmaaGreatDoor
