/- The contract of known, up to its loop. -/
import Derived.Test.YtaojgcioljcpmaaGreatDoorKnA
import Derived.Deep.RegionHeld3
namespace Go.Proofs.YtaojgcioljcpmaaGreatDoor
open Go.RowKit

theorem Row.step {w w' : World} {size : Nat} {v : Value} {n : Nat} {xs : List Value} (h : Row w w.heap.size size v n xs) (hb : Below w.heap.size w w') : Row w' w'.heap.size size v n xs := (h.below hb).mono hb.size
/-- a row that has just been laid -/
theorem Row.lit (v : World) (cs : Array Value) (t : TypeId) (n size : Nat) (h : cs.size = n * size) (hn : n ≤ maxLen) : Row (v.alloc (.cells cs t)) (v.alloc (.cells cs t)).heap.size size (.slice (some ⟨v.heap.size, 0, none⟩) n n) n cs.toList := by
  refine ⟨by rw [Array.length_toList]; exact h, hn, .inr ⟨v.heap.size, 0, n, rfl, by simp, Nat.le_refl _, fun j u hj => ?_⟩⟩
  rw [Nat.zero_add, Lib.cell_of_heap (heap_alloc_new v _) j]
  simpa using hj
theorem tokens_at (G : Nat) (l : List UInt8) (ts : List T.Tok) (E : Int) (Q : U.Pos) (h : T.tokens l = (ts, E, Q)) (hl : l.length ≤ maxLen) (W : World) (hT : Tabs G W) :
    Calls Tryz.prog 12 #[.string ⟨l.toArray⟩] W fun e w' => ∃ a c, e = .returned (.tuple #[.slice a ts.length c, .agg #[.int .i64 E, .int .i64 Q.a, .int .i64 Q.l, .int .i64 Q.c]]) ∧ Below W.heap.size W w' ∧ Row w' w'.heap.size 6 (.slice a ts.length c) ts.length (toksCells ts) := by
  have := tokens_any ⟨l.toArray⟩ W (by show l.toArray.size ≤ _; rw [List.size_toArray]; exact hl) (Tabs.of hT.now)
  have e : (⟨l.toArray⟩ : ByteArray).data.toList = l := rfl
  rw [e, h] at this
  refine this.mono ?_
  rintro _ w' ⟨v, rfl, hb, hown⟩
  obtain ⟨a, c, rfl⟩ := own_slice hown
  exact ⟨a, c, rfl, hb, Row.own hown (Nat.le_refl _)⟩

theorem same_below (la lb : List T.Tok) (a1 a2 : Option Addr) (n1 n2 c1 c2 : Nat) (at' : Bool) (w : World) (hn1 : la.length = n1) (hn2 : lb.length = n2) (hl : n1 ≤ 20000) (hl2 : n2 ≤ 20000)
    (h1 : Row w w.heap.size 6 (.slice a1 n1 c1) n1 (toksCells la)) (h2 : Row w w.heap.size 6 (.slice a2 n2 c2) n2 (toksCells lb)) :
    Calls Tryz.prog 13 #[.slice a1 n1 c1, .slice a2 n2 c2, .bool at'] w fun e w' => e = .returned (.bool (sameT at' la lb)) ∧ Below w.heap.size w w' := by
  refine (same_any la lb a1 a2 n1 n2 c1 c2 at' w hn1 hn2 hl hl2 h1 h2).mono ?_
  rintro e w' ⟨rfl, q, rfl⟩
  exact ⟨rfl, Below.drewN (Below.refl _ _) q⟩
/-- a row of tokens that has just been laid -/
theorem Row.toks (v : World) (l : List T.Tok) (n : Nat) (hn : l.length = n) (hm : n ≤ 1000) : Row (v.alloc (.cells (toksCells l).toArray 42)) (v.alloc (.cells (toksCells l).toArray 42)).heap.size 6 (.slice (some ⟨v.heap.size, 0, none⟩) n n) n (toksCells l) := by
  have hl : ∀ l : List T.Tok, (toksCells l).length = l.length * 6 := by
    intro l
    induction l with
    | nil => rfl
    | cons x l ih =>
      have : toksCells (x :: l) = tokCells x ++ toksCells l := rfl
      rw [this, List.length_append, ih, List.length_cons]
      show 6 + l.length * 6 = _
      omega
  have := Row.lit v (toksCells l).toArray 42 n 6 (by rw [List.size_toArray, hl, hn]) (by unfold maxLen; omega)
  exact this

theorem wpAnyH_switch {P : Program} {ops : Array Oper} {md : Region.Mode} {Q : Exit → Act → World → Prop} {S S' : World → Prop} (hSS : ∀ w, S' w → S w) :
    ∀ (fuel : Nat) (listed : Array Bool) (a : Act) (w : World), wpAnyH P md ops Q S' fuel listed a w → wpAnyH P md ops Q S fuel listed a w
  | 0, _, _, _, h => h
  | fuel + 1, _, _, _, h => ⟨h.1, fun i hi => wpOp_mono (fun a' w' h' => ⟨hSS _ h'.1, wpAnyH_switch hSS fuel _ a' w' h'.2⟩) (h.2 i hi)⟩
theorem wpAnyH_takeD {P : Program} {ops : Array Oper} {md : Region.Mode} {Q : Exit → Act → World → Prop} {S : World → Prop} {i d : Nat} {oi : Oper} {v : Value} {fuel : Nat} {listed : Array Bool} {a : Act} {w : World} (hi : ops[i]? = some oi) (hd : oi.dst = some d)
    (hs : Region.noSelect ops = true) (hf : Region.free md ops listed i = true) (hr : (Region.ready md ops listed).contains i = true)
    (hQ : ∀ c a w, Q (.panic c) (a.put oi.dst v) w → Q (.panic c) a w) (hy : YieldsIf P ops S oi v a) (hS : S w)
    (h : wpAnyH P md ops Q S fuel (listed.setIfInBounds i true) (a.put (some d) v) w) : wpAnyH P md ops Q S (fuel + 1) listed a w :=
  wpAnyH_take hi hs hf hr hQ hy hS (by rw [hd]; exact h)
/-- what stands while the region goes on: the diagnosis' cells -/
def S0 (W0 : World) (D : Nat) (E A : Int) (w' : World) : Prop :=
  (w'.cell? ⟨D, 0, none⟩ = some (.int .i64 E) ∧ w'.cell? ⟨D, 1, none⟩ = some (.int .i64 A) ∧ w'.cell? ⟨D, 2, none⟩ = some (.int .i64 1) ∧ w'.cell? ⟨D, 3, none⟩ = some (.int .i64 (A + 1))) ∧ Below W0.heap.size W0 w'
theorem S0.next {W0 w v : World} {D : Nat} {E A : Int} (h : S0 W0 D E A w) (hD : D < W0.heap.size) (hb : Below w.heap.size w v) : S0 W0 D E A v := by
  have hs := h.2.size
  refine ⟨⟨?_, ?_, ?_, ?_⟩, h.2.trans (hb.mono hs)⟩
  · exact (hb.cell (p := ⟨D, 0, none⟩) (by show D < _; omega)).trans h.1.1
  · exact (hb.cell (p := ⟨D, 1, none⟩) (by show D < _; omega)).trans h.1.2.1
  · exact (hb.cell (p := ⟨D, 2, none⟩) (by show D < _; omega)).trans h.1.2.2.1
  · exact (hb.cell (p := ⟨D, 3, none⟩) (by show D < _; omega)).trans h.1.2.2.2
theorem S0.alloc {W0 w : World} {D : Nat} {E A : Int} (h : S0 W0 D E A w) (hD : D < W0.heap.size) (o : Obj) : S0 W0 D E A (w.alloc o) := h.next hD ((Below.refl _ _).alloc (Nat.le_refl _) o)
/-- .. and a cell more -/
def S1 (S : World → Prop) (N k : Nat) (x : Value) (w' : World) : Prop := S w' ∧ w'.cell? ⟨N, k, none⟩ = some x ∧ N < w'.heap.size
theorem S1.next {S : World → Prop} {w v : World} {N k : Nat} {x : Value} (h : S1 S N k x w) (hS : S v) (hb : Below w.heap.size w v) : S1 S N k x v :=
  ⟨hS, (hb.cell (p := ⟨N, k, none⟩) h.2.2).trans h.2.1, Nat.lt_of_lt_of_le h.2.2 hb.size⟩

def okBad (k : Nat) (x : List UInt8 × Int × Int) : Bool := decide (([100, 100, 100, 102, 101, 3] : List Int)[k]? = some x.2.1 ∧ ([0, 2, 1, 0, 0, 0] : List Int)[k]? = some x.2.2 ∧ x.1.length ≤ 100 ∧ 0 ≤ x.2.2 ∧ x.2.2 ≤ 1000000)
theorem bads_ok : ∀ (k : Nat) (h : k < bads.length), okBad k (bads[k]'h) = true
  | 0, _ => by kernel_rfl
  | 1, _ => by kernel_rfl
  | 2, _ => by kernel_rfl
  | 3, _ => by kernel_rfl
  | 4, _ => by kernel_rfl
  | 5, _ => by kernel_rfl
theorem bads_facts (k : Nat) (h : k < bads.length) : ([100, 100, 100, 102, 101, 3] : List Int)[k]? = some (bads[k]'h).2.1 ∧ ([0, 2, 1, 0, 0, 0] : List Int)[k]? = some (bads[k]'h).2.2 ∧ (bads[k]'h).1.length ≤ 100 ∧ 0 ≤ (bads[k]'h).2.2 ∧ (bads[k]'h).2.2 ≤ 1000000 := of_decide_eq_true (bads_ok k h)
theorem cells_of_ints (l : List Int) (k : Nat) (x : Int) (h : l[k]? = some x) (v : World) (t : TypeId) : (v.alloc (.cells (l.map (Value.int .i64)).toArray t)).cell? ⟨v.heap.size, k, none⟩ = some (.int .i64 x) := by
  rw [Lib.cell_of_heap (heap_alloc_new v _) k, List.getElem?_toArray, List.getElem?_map, h]
  rfl

theorem S1.alloc {S : World → Prop} {w : World} {N k : Nat} {x : Value} (h : S1 S N k x w) (o : Obj) (hS : S (w.alloc o)) : S1 S N k x (w.alloc o) := h.next hS ((Below.refl _ _).alloc (Nat.le_refl _) o)
theorem cells_of_ints' (l : List Int) (k : Nat) (x : Int) (h : l[k]? = some x) (v : World) (t : TypeId) (n : Nat) (hn : v.heap.size = n) : (v.alloc (.cells (l.map (Value.int .i64)).toArray t)).cell? ⟨n, k, none⟩ = some (.int .i64 x) ∧ n < (v.alloc (.cells (l.map (Value.int .i64)).toArray t)).heap.size := by
  subst hn
  exact ⟨cells_of_ints l k x h v t, by simp⟩

theorem S0.drew {W0 w : World} {D : Nat} {E A : Int} (h : S0 W0 D E A w) : S0 W0 D E A w.drew := ⟨h.1, h.2.drew⟩
theorem S0.undrew {W0 w : World} {D : Nat} {E A : Int} (h : S0 W0 D E A w.drew) : S0 W0 D E A w := ⟨h.1, ⟨h.2.os, h.2.tape, h.2.output, h.2.size, h.2.block⟩⟩
theorem S1.drew {S : World → Prop} {w : World} {N k : Nat} {x : Value} (h : S1 S N k x w) (hS : S w.drew) : S1 S N k x w.drew := ⟨hS, h.2⟩
theorem S1.undrew {S : World → Prop} {w : World} {N k : Nat} {x : Value} (h : S1 S N k x w.drew) (hS : S w) : S1 S N k x w := ⟨hS, h.2⟩

set_option maxRecDepth 50000 in
set_option maxHeartbeats 4000000 in
theorem known_any (G : Nat) (w : World) (hT : Tabs G w) :
    Calls Tryz.prog 8 #[] w fun e w' => e = .returned (.bool true) ∧ Below w.heap.size w w' := by
  have HT := Lib.hid hT
  clear hT
  go_enter Tryz.func8, Tryz.ntmps8
  go_wp2_with fail
  refine (tokens_at G kA tA 0 U.zero tok_A (by decide) w HT.out).mono ?_
  rintro _ w1 ⟨a1, c1, rfl, hb1, r1⟩
  have HBW := Lib.hid hb1
  have R1 := Lib.hid r1
  clear hb1 r1
  go_wp2_with fail
  have hal := (Below.refl w1.heap.size w1).alloc (Nat.le_refl _) (.cells #[.int .i64 0, .int .i64 0, .int .i64 0, .int .i64 0] 31)
  have D1 := Lib.hid (Blk.new w1 w1.heap.size #[.int .i64 0, .int .i64 0, .int .i64 0, .int .i64 0] 31 rfl)
  replace R1 := Lib.hid (R1.out.step hal)
  replace HBW := Lib.hid (HBW.out.trans (hal.mono HBW.out.size))
  have hlt1 : w1.heap.size < (w1.alloc (.cells #[.int .i64 0, .int .i64 0, .int .i64 0, .int .i64 0] 31)).heap.size := by simp
  clear hal
  refine (tokens_at G kB tB 0 U.zero tok_B (by decide) _ (HT.out.below (HBW.out.mono HT.out.le))).mono ?_
  rintro _ w2 ⟨a2, c2, rfl, hb2, r2⟩
  replace D1 := Lib.hid (D1.out.below hb2 hlt1)
  replace R1 := Lib.hid (R1.out.step hb2)
  replace HBW := Lib.hid (HBW.out.trans (hb2.mono HBW.out.size))
  have hlt1 : w1.heap.size < w2.heap.size := D1.out.lt
  have R2 := Lib.hid r2
  clear hb2 r2
  go_wp2_with fail
  have hal := (Below.refl w2.heap.size w2).alloc (Nat.le_refl _) (.cells #[.int .i64 0, .int .i64 0, .int .i64 0, .int .i64 0] 31)
  have D2 := Lib.hid (Blk.new w2 w2.heap.size #[.int .i64 0, .int .i64 0, .int .i64 0, .int .i64 0] 31 rfl)
  replace D1 := Lib.hid (D1.out.below hal hlt1)
  replace R1 := Lib.hid (R1.out.step hal)
  replace R2 := Lib.hid (R2.out.step hal)
  replace HBW := Lib.hid (HBW.out.trans (hal.mono HBW.out.size))
  clear hal
  refine (tokens_at G kC tC 0 U.zero tok_C (by decide) _ (HT.out.below (HBW.out.mono HT.out.le))).mono ?_
  rintro _ w3 ⟨a3, c3, rfl, hb3, r3⟩
  have d1 := D1.out.below hb3 D1.out.lt
  have d2 := D2.out.below hb3 D2.out.lt
  replace R1 := Lib.hid (R1.out.step hb3)
  replace R2 := Lib.hid (R2.out.step hb3)
  replace HBW := Lib.hid (HBW.out.trans (hb3.mono HBW.out.size))
  have R3 := Lib.hid r3
  have hlt1 : w1.heap.size < w3.heap.size := d1.lt
  have hlt2 : w2.heap.size < w3.heap.size := d2.lt
  have x10 : w3.cell? ⟨w1.heap.size, 0, none⟩ = some (.int .i64 0) := d1.cell 0
  have x11 : w3.cell? ⟨w1.heap.size, 1, none⟩ = some (.int .i64 0) := d1.cell 1
  have x12 : w3.cell? ⟨w1.heap.size, 2, none⟩ = some (.int .i64 0) := d1.cell 2
  have x13 : w3.cell? ⟨w1.heap.size, 3, none⟩ = some (.int .i64 0) := d1.cell 3
  have x20 : w3.cell? ⟨w2.heap.size, 0, none⟩ = some (.int .i64 0) := d2.cell 0
  have x21 : w3.cell? ⟨w2.heap.size, 1, none⟩ = some (.int .i64 0) := d2.cell 1
  have x22 : w3.cell? ⟨w2.heap.size, 2, none⟩ = some (.int .i64 0) := d2.cell 2
  have x23 : w3.cell? ⟨w2.heap.size, 3, none⟩ = some (.int .i64 0) := d2.cell 3
  have hal := (Below.refl w3.heap.size w3).alloc (Nat.le_refl _) (.cells #[.int .i64 0, .int .i64 0, .int .i64 0, .int .i64 0] 31)
  replace R1 := Lib.hid (R1.out.step hal)
  replace R2 := Lib.hid (R2.out.step hal)
  replace R3 := Lib.hid (R3.out.step hal)
  replace HBW := Lib.hid (HBW.out.trans (hal.mono HBW.out.size))
  clear hb3 r3 d1 d2 hal D1 D2
  go_wp2_with (first | (go_at_call 25; refine (at_any _ _ (by decide)).mono ?_; rintro _ wa ⟨rfl, hba⟩; replace R1 := Lib.hid (R1.out.step hba); replace R2 := Lib.hid (R2.out.step hba); replace R3 := Lib.hid (R3.out.step hba); replace HBW := Lib.hid (HBW.out.trans (hba.mono HBW.out.size)); clear hba) | fail)
  have hal := (Below.refl wa.heap.size wa).alloc (Nat.le_refl _) (.cells (toksCells tA).toArray 42)
  refine (same_below tA tA a1 _ tA.length 5 c1 5 true (wa.alloc (.cells (toksCells tA).toArray 42)) rfl rfl (by decide) (by decide) (R1.out.step hal) (Row.toks wa tA 5 rfl (by decide))).mono ?_
  rintro _ w4 ⟨rfl, hb4⟩
  replace R2 := Lib.hid ((R2.out.step hal).step hb4)
  replace R3 := Lib.hid ((R3.out.step hal).step hb4)
  replace HBW := Lib.hid (HBW.out.trans ((hal.trans (hb4.mono (by simp))).mono HBW.out.size))
  rw [same_A]
  clear hal hb4 x10 x11 x12 x13 x20 x21 x22 x23 R1
  go_wp2_with fail
  have hal := (Below.refl w4.heap.size w4).alloc (Nat.le_refl _) (.cells (toksCells mB).toArray 42)
  refine (same_below tB mB a2 _ tB.length 3 c2 3 false (w4.alloc (.cells (toksCells mB).toArray 42)) rfl rfl (by decide) (by decide) (R2.out.step hal) (Row.toks w4 mB 3 rfl (by decide))).mono ?_
  rintro _ w5 ⟨rfl, hb5⟩
  replace R3 := Lib.hid ((R3.out.step hal).step hb5)
  replace HBW := Lib.hid (HBW.out.trans ((hal.trans (hb5.mono (by simp))).mono HBW.out.size))
  rw [same_B]
  clear hal hb5 R2
  go_wp2_with fail
  have hal := (Below.refl w5.heap.size w5).alloc (Nat.le_refl _) (.cells (toksCells mC).toArray 42)
  refine (same_below tC mC a3 _ tC.length 1 c3 1 false (w5.alloc (.cells (toksCells mC).toArray 42)) rfl rfl (by decide) (by decide) (R3.out.step hal) (Row.toks w5 mC 1 rfl (by decide))).mono ?_
  rintro _ w6 ⟨rfl, hb6⟩
  replace HBW := Lib.hid (HBW.out.trans ((hal.trans (hb6.mono (by simp))).mono HBW.out.size))
  rw [same_C]
  clear hal hb6 R3
  go_wp2_with (first | (go_at_call 26; refine (Tryz.strings_Repeat ⟨#[97]⟩ 25 _ (by decide) (by decide)).mono ?_; rintro _ w7 ⟨rfl, hb7⟩; replace HBW := Lib.hid (HBW.out.trans (hb7.mono HBW.out.size)); clear hb7) | fail)
  obtain ⟨W7, hW7⟩ : ∃ W, w7.alloc (.cells #[.string ⟨#[48, 49]⟩, .string ⟨#[97, 32, 33]⟩, .string ⟨#[34, 92, 97, 34]⟩, .string ⟨#[34, 97]⟩, .string ⟨#[49, 48, 57, 57, 53, 49, 49, 54, 50, 55, 55, 55, 55]⟩, .string ⟨(Lib.repeatL [97] 25).toArray⟩] 9) = W := ⟨_, rfl⟩
  have hst : ∀ k (h : k < bads.length), W7.cell? ⟨w7.heap.size, k, none⟩ = some (.string ⟨(bads[k]'h).1.toArray⟩) := by
    intro k h
    rw [← hW7, Lib.cell_of_heap (heap_alloc_new w7 _) k]
    match k, h with
    | 0, _ => rfl
    | 1, _ => rfl
    | 2, _ => rfl
    | 3, _ => rfl
    | 4, _ => rfl
    | 5, _ => rfl
  have hal : Below w7.heap.size w7 W7 := by rw [← hW7]; exact (Below.refl _ _).alloc (Nat.le_refl _) _
  replace HBW := Lib.hid (HBW.out.trans (hal.mono HBW.out.size))
  have hN7 : w7.heap.size < W7.heap.size := by rw [← hW7]; simp
  have HST := Lib.hid hst
  clear hst hal
  go_loopw [73] (fun u wr => ∃ k : Nat, k ≤ 6 ∧ u = .int .i64 k ∧ Below W7.heap.size W7 wr) (fun u _ => 6 - (intOf u).toNat)
  case atStart => exact ⟨0, Nat.zero_le _, rfl, by rw [← hW7]; exact Below.refl _ _⟩
  case round =>
    obtain ⟨k, hk, rfl, hbe⟩ := hrel
    clear hW7
    by_cases hlt : k < 6
    · have hkl : k < bads.length := hlt
      have hst := HST.out k hkl
      have htk := tok_bad k hkl
      obtain ⟨⟨s, E, A⟩, hx⟩ : ∃ x, bads[k]'hkl = x := ⟨_, rfl⟩
      have hfacts := bads_facts k hkl
      rw [hx] at hfacts
      rw [hx] at hst htk
      simp only at hst htk
      obtain ⟨hfE, hfA, hsl, hA0, hA1⟩ := hfacts
      have e0 := (hbe.cell (p := ⟨w7.heap.size, k, none⟩) hN7).trans hst
      have hk6 : (k : Int) < 6 := by omega
      have HBE := Lib.hid (HBW.out.trans (hbe.mono HBW.out.size))
      have HB7 := Lib.hid hbe
      have HFE := Lib.hid hfE
      have HFA := Lib.hid hfA
      clear hx hst hbe hfE hfA
      go_wp2_with fail
      refine (tokens_at G s [] E ⟨A, 1, A + 1⟩ htk (by unfold maxLen; omega) _ (HT.out.below (HBE.out.mono HT.out.le))).mono ?_
      rintro _ w8 ⟨a8, c8, rfl, hb8, _⟩
      have HBE8 := Lib.hid (HBE.out.trans (hb8.mono HBE.out.size))
      have HB8 := Lib.hid (HB7.out.trans (hb8.mono HB7.out.size))
      clear htk hb8 e0
      go_wp2_with fail
      obtain ⟨W0, hW0⟩ : ∃ W, w8.alloc (.cells #[.int .i64 E, .int .i64 A, .int .i64 1, .int .i64 (A + 1)] 31) = W := ⟨_, rfl⟩
      have hD0 := Blk.new w8 w8.heap.size #[.int .i64 E, .int .i64 A, .int .i64 1, .int .i64 (A + 1)] 31 rfl
      have hal : Below w8.heap.size w8 W0 := by rw [← hW0]; exact (Below.refl _ _).alloc (Nat.le_refl _) _
      have hDl : w8.heap.size < W0.heap.size := by rw [← hW0]; simp
      rw [hW0] at hD0 ⊢
      have hS0 : S0 W0 w8.heap.size E A W0.drew := ⟨⟨hD0.cell 0, hD0.cell 1, hD0.cell 2, hD0.cell 3⟩, (Below.refl _ _).drew⟩
      have HBE9 := Lib.hid (HBE8.out.trans (hal.mono HBE8.out.size))
      have HB9 := Lib.hid (HB8.out.trans (hal.mono HB8.out.size))
      clear hW0 hD0 hal
      have hk0 : (0 : Int) ≤ (k : Int) := by omega
      refine wp_region_held_drew (S := S0 W0 w8.heap.size E A) (by kernel_rfl) hS0 (fun hHeld => ?_)
      clear hS0
      refine wpAnyH_takeD (i := 0) (d := 83) (v := ?_) rfl rfl (by kernel_rfl) (by kernel_rfl) (by kernel_rfl) (fun _ _ _ h => h) (Or.inl ⟨by rfl, ?_⟩) (by assumption) ?_
      rotate_left 1
      · (rintro w ⟨_, _⟩; go_simp; try with_reducible rfl)
      simp only [Act.put, List.setIfInBounds_toArray, List.set_cons_zero, List.set_cons_succ]
      refine wpAnyH_takeD (i := 1) (d := 84) (v := ?_) rfl rfl (by kernel_rfl) (by kernel_rfl) (by kernel_rfl) (fun _ _ _ h => h) (Or.inl ⟨by rfl, ?_⟩) (by assumption) ?_
      rotate_left 1
      · (rintro w ⟨_, _⟩; go_simp; try with_reducible rfl)
      simp only [Act.put, List.setIfInBounds_toArray, List.set_cons_zero, List.set_cons_succ]
      refine wpAnyH_takeD (i := 2) (d := 85) (v := ?_) rfl rfl (by kernel_rfl) (by kernel_rfl) (by kernel_rfl) (fun _ _ _ h => h) (Or.inl ⟨by rfl, ?_⟩) (by assumption) ?_
      rotate_left 1
      · (rintro w ⟨_, _⟩; go_simp; try with_reducible rfl)
      simp only [Act.put, List.setIfInBounds_toArray, List.set_cons_zero, List.set_cons_succ]
      refine wpAnyH_takeD (i := 3) (d := 86) (v := ?_) rfl rfl (by kernel_rfl) (by kernel_rfl) (by kernel_rfl) (fun _ _ _ h => h) (Or.inl ⟨by rfl, ?_⟩) (by assumption) ?_
      rotate_left 1
      · (rintro w ⟨_, _⟩; go_simp; try with_reducible rfl)
      simp only [Act.put, List.setIfInBounds_toArray, List.set_cons_zero, List.set_cons_succ]
      refine wpAnyH_takeD (i := 4) (d := 87) (v := ?_) rfl rfl (by kernel_rfl) (by kernel_rfl) (by kernel_rfl) (fun _ _ _ h => h) (Or.inl ⟨by rfl, ?_⟩) (by assumption) ?_
      rotate_left 1
      · (rintro w ⟨⟨h0, h1, h2, h3⟩, _⟩; go_simp; try with_reducible rfl)
      simp only [Act.put, List.setIfInBounds_toArray, List.set_cons_zero, List.set_cons_succ]
      refine wpAnyH_takeD (i := 6) (d := 89) (v := ?_) rfl rfl (by kernel_rfl) (by kernel_rfl) (by kernel_rfl) (fun _ _ _ h => h) (Or.inl ⟨by rfl, ?_⟩) (by assumption) ?_
      rotate_left 1
      · (rintro w ⟨_, _⟩; go_simp; try with_reducible rfl)
      simp only [Act.put, List.setIfInBounds_toArray, List.set_cons_zero, List.set_cons_succ]
      refine wpAnyH_takeD (i := 10) (d := 93) (v := ?_) rfl rfl (by kernel_rfl) (by kernel_rfl) (by kernel_rfl) (fun _ _ _ h => h) (Or.inl ⟨by rfl, ?_⟩) (by assumption) ?_
      rotate_left 1
      · (rintro w ⟨_, _⟩; go_simp; try with_reducible rfl)
      simp only [Act.put, List.setIfInBounds_toArray, List.set_cons_zero, List.set_cons_succ]
      refine wpAnyH_ready (rs := [5, 9]) (by kernel_rfl) (by simp) ?_
      refine AllReadyH.cons (o := _) rfl (fun K hK => ?_) ?_
      · go_simp
        refine hK.out _ _ (S0.alloc (w := W0) (S0.undrew hHeld) hDl _).drew (fun hH => ?_)
        clear hK K
        have hc := cells_of_ints' _ k E HFE.out W0 25 W0.heap.size rfl
        refine wpAnyH_switch (S' := S1 (S0 W0 w8.heap.size E A) (W0.heap.size) k (.int .i64 E)) (fun w h => h.1) _ _ _ _ ?_
        have hH1 : S1 (S0 W0 w8.heap.size E A) (W0.heap.size) k (.int .i64 E) ((W0.alloc (.cells #[.int .i64 100, .int .i64 100, .int .i64 100, .int .i64 102, .int .i64 101, .int .i64 3] 25)).drew) := ⟨hH, hc.1, hc.2⟩
        clear hH hc
        refine wpAnyH_takeD (i := 7) (d := 90) (v := ?_) rfl rfl (by kernel_rfl) (by kernel_rfl) (by kernel_rfl) (fun _ _ _ h => h) (Or.inl ⟨by rfl, ?_⟩) (by assumption) ?_
        rotate_left 1
        · (rintro w ⟨⟨⟨h0, h1, h2, h3⟩, _⟩, h4, _⟩; go_simp; try with_reducible rfl)
        simp only [Act.put, List.setIfInBounds_toArray, List.set_cons_zero, List.set_cons_succ]
        refine wpAnyH_takeD (i := 8) (d := 91) (v := ?_) rfl rfl (by kernel_rfl) (by kernel_rfl) (by kernel_rfl) (fun _ _ _ h => h) (Or.inl ⟨by rfl, ?_⟩) (by assumption) ?_
        rotate_left 1
        · (rintro w ⟨⟨⟨h0, h1, h2, h3⟩, _⟩, h4, _⟩; go_simp; try with_reducible rfl)
        simp only [Act.put, List.setIfInBounds_toArray, List.set_cons_zero, List.set_cons_succ]
        refine wpAnyH_ready (rs := [9]) (by kernel_rfl) (by simp) ?_
        refine AllReadyH.cons (o := _) rfl (fun K hK => ?_) AllReadyH.nil
        go_simp
        refine hK.out _ _ (S1.drew (S1.alloc (w := W0.alloc (.cells #[.int .i64 100, .int .i64 100, .int .i64 100, .int .i64 102, .int .i64 101, .int .i64 3] 25)) (S1.undrew hH1 (S0.undrew hH1.1)) _ (S0.alloc (w := W0.alloc (.cells #[.int .i64 100, .int .i64 100, .int .i64 100, .int .i64 102, .int .i64 101, .int .i64 3] 25)) (S0.undrew hH1.1) hDl _)) (S0.alloc (w := W0.alloc (.cells #[.int .i64 100, .int .i64 100, .int .i64 100, .int .i64 102, .int .i64 101, .int .i64 3] 25)) (S0.undrew hH1.1) hDl _).drew) (fun hH => ?_)
        clear hK K
        have hc := cells_of_ints' _ k A HFA.out (W0.alloc (.cells #[.int .i64 100, .int .i64 100, .int .i64 100, .int .i64 102, .int .i64 101, .int .i64 3] 25)) 3 (W0.heap.size + 1) (by simp)
        refine wpAnyH_switch (S' := S1 (S1 (S0 W0 w8.heap.size E A) (W0.heap.size) k (.int .i64 E)) (W0.heap.size + 1) k (.int .i64 A)) (fun w h => h.1) _ _ _ _ ?_
        have hH2 : S1 (S1 (S0 W0 w8.heap.size E A) (W0.heap.size) k (.int .i64 E)) (W0.heap.size + 1) k (.int .i64 A) (((W0.alloc (.cells #[.int .i64 100, .int .i64 100, .int .i64 100, .int .i64 102, .int .i64 101, .int .i64 3] 25)).alloc (.cells #[.int .i64 0, .int .i64 2, .int .i64 1, .int .i64 0, .int .i64 0, .int .i64 0] 3)).drew) := ⟨hH, hc.1, hc.2⟩
        clear hH hc hH1
        refine wpAnyH_takeD (i := 11) (d := 94) (v := ?_) rfl rfl (by kernel_rfl) (by kernel_rfl) (by kernel_rfl) (fun _ _ _ h => h) (Or.inl ⟨by rfl, ?_⟩) (by assumption) ?_
        rotate_left 1
        · (rintro w ⟨⟨⟨⟨h0, h1, h2, h3⟩, _⟩, h4, _⟩, h5, _⟩; go_simp; try with_reducible rfl)
        simp only [Act.put, List.setIfInBounds_toArray, List.set_cons_zero, List.set_cons_succ]
        refine wpAnyH_takeD (i := 12) (d := 95) (v := ?_) rfl rfl (by kernel_rfl) (by kernel_rfl) (by kernel_rfl) (fun _ _ _ h => h) (Or.inl ⟨by rfl, ?_⟩) (by assumption) ?_
        rotate_left 1
        · (rintro w ⟨⟨⟨⟨h0, h1, h2, h3⟩, _⟩, h4, _⟩, h5, _⟩; go_simp; try with_reducible rfl)
        simp only [Act.put, List.setIfInBounds_toArray, List.set_cons_zero, List.set_cons_succ]
        refine wpAnyH_ready (rs := [13]) (by kernel_rfl) (by simp) ?_
        refine AllReadyH.cons (o := _) rfl (fun K hK => ?_) AllReadyH.nil
        go_simp
        refine (at_any A _ (by omega)).mono ?_
        rintro _ wa ⟨rfl, hba⟩
        go_wp2_with fail
        refine hK.out _ _ (S1.next hH2 (S1.next hH2.1 (S0.next hH2.1.1 hDl hba) hba) hba) (fun hH => ?_)
        clear hK K hH2
        refine wpAnyH_takeD (i := 14) (d := 97) (v := ?_) rfl rfl (by kernel_rfl) (by kernel_rfl) (by kernel_rfl) (fun _ _ _ h => h) (Or.inl ⟨by rfl, ?_⟩) (by assumption) ?_
        rotate_left 1
        · (rintro w ⟨⟨⟨⟨h0, h1, h2, h3⟩, _⟩, h4, _⟩, h5, _⟩; go_simp; try with_reducible rfl)
        simp only [Act.put, List.setIfInBounds_toArray, List.set_cons_zero, List.set_cons_succ]
        refine wpAnyH_takeD (i := 15) (d := 98) (v := ?_) rfl rfl (by kernel_rfl) (by kernel_rfl) (by kernel_rfl) (fun _ _ _ h => h) (Or.inl ⟨by rfl, ?_⟩) (by assumption) ?_
        rotate_left 1
        · (rintro w ⟨⟨⟨⟨h0, h1, h2, h3⟩, _⟩, h4, _⟩, h5, _⟩; go_simp; try with_reducible rfl)
        simp only [Act.put, List.setIfInBounds_toArray, List.set_cons_zero, List.set_cons_succ]
        refine wpAnyH_takeD (i := 16) (d := 99) (v := ?_) rfl rfl (by kernel_rfl) (by kernel_rfl) (by kernel_rfl) (fun _ _ _ h => h) (Or.inl ⟨by rfl, ?_⟩) (by assumption) ?_
        rotate_left 1
        · (rintro w ⟨⟨⟨⟨h0, h1, h2, h3⟩, _⟩, h4, _⟩, h5, _⟩; go_simp; try with_reducible rfl)
        simp only [Act.put, List.setIfInBounds_toArray, List.set_cons_zero, List.set_cons_succ]
        refine wpAnyH_done (by kernel_rfl) ?_ _
        go_wp2
        exact ⟨⟨k + 1, by omega, by rw [Int.natCast_add]; rfl, HB9.out.trans (hH.1.1.2.mono HB9.out.size)⟩, by simp [intOf]; omega⟩
      · refine AllReadyH.cons (o := _) rfl (fun K hK => ?_) AllReadyH.nil
        go_simp
        refine hK.out _ _ (S0.alloc (w := W0) (S0.undrew hHeld) hDl _).drew (fun hH => ?_)
        clear hK K
        have hc := cells_of_ints' _ k A HFA.out W0 3 W0.heap.size rfl
        refine wpAnyH_switch (S' := S1 (S0 W0 w8.heap.size E A) (W0.heap.size) k (.int .i64 A)) (fun w h => h.1) _ _ _ _ ?_
        have hH1 : S1 (S0 W0 w8.heap.size E A) (W0.heap.size) k (.int .i64 A) ((W0.alloc (.cells #[.int .i64 0, .int .i64 2, .int .i64 1, .int .i64 0, .int .i64 0, .int .i64 0] 3)).drew) := ⟨hH, hc.1, hc.2⟩
        clear hH hc
        refine wpAnyH_takeD (i := 11) (d := 94) (v := ?_) rfl rfl (by kernel_rfl) (by kernel_rfl) (by kernel_rfl) (fun _ _ _ h => h) (Or.inl ⟨by rfl, ?_⟩) (by assumption) ?_
        rotate_left 1
        · (rintro w ⟨⟨⟨h0, h1, h2, h3⟩, _⟩, h4, _⟩; go_simp; try with_reducible rfl)
        simp only [Act.put, List.setIfInBounds_toArray, List.set_cons_zero, List.set_cons_succ]
        refine wpAnyH_takeD (i := 12) (d := 95) (v := ?_) rfl rfl (by kernel_rfl) (by kernel_rfl) (by kernel_rfl) (fun _ _ _ h => h) (Or.inl ⟨by rfl, ?_⟩) (by assumption) ?_
        rotate_left 1
        · (rintro w ⟨⟨⟨h0, h1, h2, h3⟩, _⟩, h4, _⟩; go_simp; try with_reducible rfl)
        simp only [Act.put, List.setIfInBounds_toArray, List.set_cons_zero, List.set_cons_succ]
        refine wpAnyH_ready (rs := [5, 13]) (by kernel_rfl) (by simp) ?_
        refine AllReadyH.cons (o := _) rfl (fun K hK => ?_) ?_
        · go_simp
          refine hK.out _ _ (S1.drew (S1.alloc (w := W0.alloc (.cells #[.int .i64 0, .int .i64 2, .int .i64 1, .int .i64 0, .int .i64 0, .int .i64 0] 3)) (S1.undrew hH1 (S0.undrew hH1.1)) _ (S0.alloc (w := W0.alloc (.cells #[.int .i64 0, .int .i64 2, .int .i64 1, .int .i64 0, .int .i64 0, .int .i64 0] 3)) (S0.undrew hH1.1) hDl _)) (S0.alloc (w := W0.alloc (.cells #[.int .i64 0, .int .i64 2, .int .i64 1, .int .i64 0, .int .i64 0, .int .i64 0] 3)) (S0.undrew hH1.1) hDl _).drew) (fun hH => ?_)
          clear hK K
          have hc := cells_of_ints' _ k E HFE.out (W0.alloc (.cells #[.int .i64 0, .int .i64 2, .int .i64 1, .int .i64 0, .int .i64 0, .int .i64 0] 3)) 25 (W0.heap.size + 1) (by simp)
          refine wpAnyH_switch (S' := S1 (S1 (S0 W0 w8.heap.size E A) (W0.heap.size) k (.int .i64 A)) (W0.heap.size + 1) k (.int .i64 E)) (fun w h => h.1) _ _ _ _ ?_
          have hH2 : S1 (S1 (S0 W0 w8.heap.size E A) (W0.heap.size) k (.int .i64 A)) (W0.heap.size + 1) k (.int .i64 E) (((W0.alloc (.cells #[.int .i64 0, .int .i64 2, .int .i64 1, .int .i64 0, .int .i64 0, .int .i64 0] 3)).alloc (.cells #[.int .i64 100, .int .i64 100, .int .i64 100, .int .i64 102, .int .i64 101, .int .i64 3] 25)).drew) := ⟨hH, hc.1, hc.2⟩
          clear hH hc hH1
          refine wpAnyH_takeD (i := 7) (d := 90) (v := ?_) rfl rfl (by kernel_rfl) (by kernel_rfl) (by kernel_rfl) (fun _ _ _ h => h) (Or.inl ⟨by rfl, ?_⟩) (by assumption) ?_
          rotate_left 1
          · (rintro w ⟨⟨⟨⟨h0, h1, h2, h3⟩, _⟩, h4, _⟩, h5, _⟩; go_simp; try with_reducible rfl)
          simp only [Act.put, List.setIfInBounds_toArray, List.set_cons_zero, List.set_cons_succ]
          refine wpAnyH_takeD (i := 8) (d := 91) (v := ?_) rfl rfl (by kernel_rfl) (by kernel_rfl) (by kernel_rfl) (fun _ _ _ h => h) (Or.inl ⟨by rfl, ?_⟩) (by assumption) ?_
          rotate_left 1
          · (rintro w ⟨⟨⟨⟨h0, h1, h2, h3⟩, _⟩, h4, _⟩, h5, _⟩; go_simp; try with_reducible rfl)
          simp only [Act.put, List.setIfInBounds_toArray, List.set_cons_zero, List.set_cons_succ]
          refine wpAnyH_ready (rs := [13]) (by kernel_rfl) (by simp) ?_
          refine AllReadyH.cons (o := _) rfl (fun K hK => ?_) AllReadyH.nil
          go_simp
          refine (at_any A _ (by omega)).mono ?_
          rintro _ wa ⟨rfl, hba⟩
          go_wp2_with fail
          refine hK.out _ _ (S1.next hH2 (S1.next hH2.1 (S0.next hH2.1.1 hDl hba) hba) hba) (fun hH => ?_)
          clear hK K hH2
          refine wpAnyH_takeD (i := 14) (d := 97) (v := ?_) rfl rfl (by kernel_rfl) (by kernel_rfl) (by kernel_rfl) (fun _ _ _ h => h) (Or.inl ⟨by rfl, ?_⟩) (by assumption) ?_
          rotate_left 1
          · (rintro w ⟨⟨⟨⟨h0, h1, h2, h3⟩, _⟩, h4, _⟩, h5, _⟩; go_simp; try with_reducible rfl)
          simp only [Act.put, List.setIfInBounds_toArray, List.set_cons_zero, List.set_cons_succ]
          refine wpAnyH_takeD (i := 15) (d := 98) (v := ?_) rfl rfl (by kernel_rfl) (by kernel_rfl) (by kernel_rfl) (fun _ _ _ h => h) (Or.inl ⟨by rfl, ?_⟩) (by assumption) ?_
          rotate_left 1
          · (rintro w ⟨⟨⟨⟨h0, h1, h2, h3⟩, _⟩, h4, _⟩, h5, _⟩; go_simp; try with_reducible rfl)
          simp only [Act.put, List.setIfInBounds_toArray, List.set_cons_zero, List.set_cons_succ]
          refine wpAnyH_takeD (i := 16) (d := 99) (v := ?_) rfl rfl (by kernel_rfl) (by kernel_rfl) (by kernel_rfl) (fun _ _ _ h => h) (Or.inl ⟨by rfl, ?_⟩) (by assumption) ?_
          rotate_left 1
          · (rintro w ⟨⟨⟨⟨h0, h1, h2, h3⟩, _⟩, h4, _⟩, h5, _⟩; go_simp; try with_reducible rfl)
          simp only [Act.put, List.setIfInBounds_toArray, List.set_cons_zero, List.set_cons_succ]
          refine wpAnyH_done (by kernel_rfl) ?_ _
          go_wp2
          exact ⟨⟨k + 1, by omega, by rw [Int.natCast_add]; rfl, HB9.out.trans (hH.1.1.2.mono HB9.out.size)⟩, by simp [intOf]; omega⟩
        refine AllReadyH.cons (o := _) rfl (fun K hK => ?_) AllReadyH.nil
        go_simp
        refine (at_any A _ (by omega)).mono ?_
        rintro _ wa ⟨rfl, hba⟩
        go_wp2_with fail
        refine hK.out _ _ (S1.next hH1 (S0.next hH1.1 hDl hba) hba) (fun hH => ?_)
        clear hK K hH1
        refine wpAnyH_ready (rs := [5]) (by kernel_rfl) (by simp) ?_
        refine AllReadyH.cons (o := _) rfl (fun K hK => ?_) AllReadyH.nil
        go_simp
        refine hK.out _ _ (S1.alloc hH _ (S0.alloc hH.1 hDl _)) (fun hH3 => ?_)
        clear hK K
        have hc := cells_of_ints' _ k E HFE.out wa 25 wa.heap.size rfl
        refine wpAnyH_switch (S' := S1 (S1 (S0 W0 w8.heap.size E A) (W0.heap.size) k (.int .i64 A)) (wa.heap.size) k (.int .i64 E)) (fun w h => h.1) _ _ _ _ ?_
        have hH2 : S1 (S1 (S0 W0 w8.heap.size E A) (W0.heap.size) k (.int .i64 A)) (wa.heap.size) k (.int .i64 E) (wa.alloc (.cells #[.int .i64 100, .int .i64 100, .int .i64 100, .int .i64 102, .int .i64 101, .int .i64 3] 25)) := ⟨hH3, hc.1, hc.2⟩
        clear hH hH3 hc
        refine wpAnyH_takeD (i := 7) (d := 90) (v := ?_) rfl rfl (by kernel_rfl) (by kernel_rfl) (by kernel_rfl) (fun _ _ _ h => h) (Or.inl ⟨by rfl, ?_⟩) (by assumption) ?_
        rotate_left 1
        · (rintro w ⟨⟨⟨⟨h0, h1, h2, h3⟩, _⟩, h4, _⟩, h5, _⟩; go_simp; try with_reducible rfl)
        simp only [Act.put, List.setIfInBounds_toArray, List.set_cons_zero, List.set_cons_succ]
        refine wpAnyH_takeD (i := 8) (d := 91) (v := ?_) rfl rfl (by kernel_rfl) (by kernel_rfl) (by kernel_rfl) (fun _ _ _ h => h) (Or.inl ⟨by rfl, ?_⟩) (by assumption) ?_
        rotate_left 1
        · (rintro w ⟨⟨⟨⟨h0, h1, h2, h3⟩, _⟩, h4, _⟩, h5, _⟩; go_simp; try with_reducible rfl)
        simp only [Act.put, List.setIfInBounds_toArray, List.set_cons_zero, List.set_cons_succ]
        refine wpAnyH_takeD (i := 14) (d := 97) (v := ?_) rfl rfl (by kernel_rfl) (by kernel_rfl) (by kernel_rfl) (fun _ _ _ h => h) (Or.inl ⟨by rfl, ?_⟩) (by assumption) ?_
        rotate_left 1
        · (rintro w ⟨⟨⟨⟨h0, h1, h2, h3⟩, _⟩, h4, _⟩, h5, _⟩; go_simp; try with_reducible rfl)
        simp only [Act.put, List.setIfInBounds_toArray, List.set_cons_zero, List.set_cons_succ]
        refine wpAnyH_takeD (i := 15) (d := 98) (v := ?_) rfl rfl (by kernel_rfl) (by kernel_rfl) (by kernel_rfl) (fun _ _ _ h => h) (Or.inl ⟨by rfl, ?_⟩) (by assumption) ?_
        rotate_left 1
        · (rintro w ⟨⟨⟨⟨h0, h1, h2, h3⟩, _⟩, h4, _⟩, h5, _⟩; go_simp; try with_reducible rfl)
        simp only [Act.put, List.setIfInBounds_toArray, List.set_cons_zero, List.set_cons_succ]
        refine wpAnyH_takeD (i := 16) (d := 99) (v := ?_) rfl rfl (by kernel_rfl) (by kernel_rfl) (by kernel_rfl) (fun _ _ _ h => h) (Or.inl ⟨by rfl, ?_⟩) (by assumption) ?_
        rotate_left 1
        · (rintro w ⟨⟨⟨⟨h0, h1, h2, h3⟩, _⟩, h4, _⟩, h5, _⟩; go_simp; try with_reducible rfl)
        simp only [Act.put, List.setIfInBounds_toArray, List.set_cons_zero, List.set_cons_succ]
        refine wpAnyH_done (by kernel_rfl) ?_ _
        go_wp2
        exact ⟨⟨k + 1, by omega, by rw [Int.natCast_add]; rfl, HB9.out.trans (hH2.1.1.2.mono HB9.out.size)⟩, by simp [intOf]; omega⟩
    · have hk6 : k = 6 := by omega
      subst hk6
      have HBE := Lib.hid (HBW.out.trans (hbe.mono HBW.out.size))
      clear hbe
      have hw1 := fun (v : World) (hv : Below w.heap.size w v) => write_any G [⟨1, [97], 0, U.zero⟩, ⟨4, [10], 0, U.zero⟩] (some ⟨v.heap.size, 0, none⟩) 2 2 (v.alloc (.cells (toksCells [⟨1, [97], 0, U.zero⟩, ⟨4, [10], 0, U.zero⟩]).toArray 42)) (HT.out.below ((hv.alloc hv.size _).mono HT.out.le)) rfl (by decide) (by intro t ht; simp only [List.mem_cons, List.not_mem_nil, or_false] at ht; rcases ht with rfl | rfl <;> exact ⟨by decide, by decide, by decide⟩) (Row.toks v _ 2 rfl (by decide))
      have hw2 := fun (v : World) (hv : Below w.heap.size w v) => write_any G [⟨1, [65], 0, U.zero⟩] (some ⟨v.heap.size, 0, none⟩) 1 1 (v.alloc (.cells (toksCells [⟨1, [65], 0, U.zero⟩]).toArray 42)) (HT.out.below ((hv.alloc hv.size _).mono HT.out.le)) rfl (by decide) (by intro t ht; simp only [List.mem_cons, List.not_mem_nil, or_false] at ht; rcases ht with rfl; exact ⟨by decide, by decide, by decide⟩) (Row.toks v _ 1 rfl (by decide))
      rw [write_a] at hw1
      rw [write_b] at hw2
      have HW1 := Lib.hid hw1
      have HW2 := Lib.hid hw2
      clear hw1 hw2
      go_wp2_with fail
      refine (HW1.out wr HBE.out).mono ?_
      rintro _ v1 ⟨rfl, hb1⟩
      replace HBE := Lib.hid (HBE.out.trans ((((Below.refl _ _).alloc (Nat.le_refl _) _).trans (hb1.mono (by simp))).mono HBE.out.size))
      clear hb1
      go_wp2_with fail
      refine (HW2.out v1 HBE.out).mono ?_
      rintro _ v2 ⟨rfl, hb2⟩
      replace HBE := Lib.hid (HBE.out.trans ((((Below.refl _ _).alloc (Nat.le_refl _) _).trans (hb2.mono (by simp))).mono HBE.out.size))
      clear hb2
      go_wp2
      go_ret
      exact ⟨rfl, HBE.out⟩
end Go.Proofs.YtaojgcioljcpmaaGreatDoor
