/- Contracts: lex's reader, its small functions. -/
import Derived.Test.YtaojgcioljcpmaaGreatDoorUtfA
import Derived.Test.YtaojgcioljcpmaaGreatDoorLexPlain
import Derived.Deep.Light
import Derived.Deep.QuietTactic
import Derived.BigQuiet
import Derived.RegionTactic
namespace Go.Proofs.YtaojgcioljcpmaaGreatDoor
open Go.RowKit

theorem ret_i {a b : Int} (h : a = b) : Ending.returned (.int .i64 a) = .returned (.int .i64 b) := by rw [h]
theorem ret_r {a b : Int} (h : a = b) : Ending.returned (.int .i32 a) = .returned (.int .i32 b) := by rw [h]
theorem ret_b {a b : Bool} (h : a = b) : Ending.returned (.bool a) = .returned (.bool b) := by rw [h]
theorem ret_s {a b : ByteArray} (h : a = b) : Ending.returned (.string a) = .returned (.string b) := by rw [h]

/-- all stands as it stood, but one block; new blocks -/
structure Keep (b : Nat) (w w' : World) : Prop where
  os : w'.os = w.os
  tape : w'.tape = w.tape
  output : w'.output = w.output
  size : w.heap.size ≤ w'.heap.size
  block : ∀ k, k < w.heap.size → k ≠ b → w'.heap[k]? = w.heap[k]?
theorem Keep.refl (b : Nat) (w : World) : Keep b w w := ⟨rfl, rfl, rfl, Nat.le_refl _, fun _ _ _ => rfl⟩
theorem Keep.trans {b : Nat} {u v w : World} (h : Keep b u v) (k : Keep b v w) : Keep b u w :=
  ⟨k.os.trans h.os, k.tape.trans h.tape, k.output.trans h.output, Nat.le_trans h.size k.size, fun i hi hb => (k.block i (Nat.lt_of_lt_of_le hi h.size) hb).trans (h.block i hi hb)⟩
theorem Keep.of_below {b : Nat} {v w : World} (k : Below v.heap.size v w) : Keep b v w := ⟨k.os, k.tape, k.output, k.size, fun i hi _ => k.block i hi⟩
theorem Keep.below {b : Nat} {u v w : World} (h : Keep b u v) (k : Below v.heap.size v w) : Keep b u w := h.trans (.of_below k)
theorem Keep.alloc {b : Nat} {w v : World} (h : Keep b w v) (o : Obj) : Keep b w (v.alloc o) := h.below ((Below.refl _ _).alloc (Nat.le_refl _) _)
theorem Keep.drew {b : Nat} {w v : World} (h : Keep b w v) : Keep b w v.drew := ⟨h.os, h.tape, h.output, h.size, h.block⟩
theorem Keep.drewN {b : Nat} {w v : World} (h : Keep b w v) (n : Nat) : Keep b w (v.drewN n) := ⟨h.os, h.tape, h.output, h.size, h.block⟩
theorem Keep.setOwn {b : Nat} {w v : World} (h : Keep b w v) (j : Nat) (x : Value) : Keep b w (v.setCell ⟨b, j, none⟩ x) := by
  have hb : Below b v (v.setCell ⟨b, j, none⟩ x) := (Below.refl b v).setCell (p := ⟨b, j, none⟩) (Nat.le_refl b) x
  refine ⟨hb.os.trans h.os, hb.tape.trans h.tape, hb.output.trans h.output, Nat.le_trans h.size hb.size, fun k hk hne => ?_⟩
  refine Eq.trans ?_ (h.block k hk hne)
  exact heap_setCell_other v ⟨b, j, none⟩ k x hne
theorem Keep.setNew {b : Nat} {w v : World} (h : Keep b w v) {a : Addr} (ha : w.heap.size ≤ a.block) (x : Value) : Keep b w (v.setCell a x) := by
  have hb : Below w.heap.size v (v.setCell a x) := (Below.refl _ _).setCell ha _
  refine ⟨hb.os.trans h.os, hb.tape.trans h.tape, hb.output.trans h.output, Nat.le_trans h.size hb.size, fun k hk hne => ?_⟩
  exact (hb.block k hk).trans (h.block k hk hne)
theorem Keep.low {b B : Nat} {w v : World} (h : Keep b w v) (hB : B ≤ b) (hw : b < w.heap.size) : Below B w v := ⟨h.os, h.tape, h.output, h.size, fun k hk => h.block k (by omega) (by omega)⟩
theorem Blk.keep {b c : Nat} {w v : World} {cs : Array Value} {t : TypeId} (h : Keep b w v) (k : Blk w c cs t) (hc : c ≠ b) : Blk v c cs t := (h.block c k.lt hc).trans k

theorem ptsCells_at (l : List U.Pt) (i : Nat) (h : i < l.length) :
    (ptsCells l)[i * 4]? = some (.int .i32 (l[i]'h).r) ∧ (ptsCells l)[i * 4 + 1]? = some (.int .i64 (l[i]'h).p.a) ∧ (ptsCells l)[i * 4 + 2]? = some (.int .i64 (l[i]'h).p.l) ∧ (ptsCells l)[i * 4 + 3]? = some (.int .i64 (l[i]'h).p.c) := by
  induction l generalizing i with
  | nil => simp at h
  | cons x l ih =>
    have e : ptsCells (x :: l) = ptCells x ++ ptsCells l := by simp [ptsCells]
    cases i with
    | zero => rw [e]; simp [ptCells]
    | succ i =>
      have hi : i < l.length := by simpa using h
      obtain ⟨h1, h2, h3, h4⟩ := ih i hi
      have hl : (ptCells x).length = 4 := rfl
      rw [e]
      refine ⟨?_, ?_, ?_, ?_⟩
      · rw [List.getElem?_append_right (by omega), hl, show (i + 1) * 4 - 4 = i * 4 by omega, h1]; rfl
      · rw [List.getElem?_append_right (by omega), hl, show (i + 1) * 4 + 1 - 4 = i * 4 + 1 by omega, h2]; rfl
      · rw [List.getElem?_append_right (by omega), hl, show (i + 1) * 4 + 2 - 4 = i * 4 + 2 by omega, h3]; rfl
      · rw [List.getElem?_append_right (by omega), hl, show (i + 1) * 4 + 3 - 4 = i * 4 + 3 by omega, h4]; rfl

/-- a slice of code points: where its cells lie -/
def Pts (w : World) (B : Nat) (a : Option Addr) (c : Nat) (l : List U.Pt) : Prop :=
  (a = none ∧ c = 0 ∧ l = []) ∨ ∃ g off, a = some ⟨g, off, none⟩ ∧ g < B ∧ l.length ≤ c ∧ ∀ j u, (ptsCells l)[j]? = some u → w.cell? ⟨g, off + j, none⟩ = some u
theorem Pts.below {w w' : World} {B : Nat} {a : Option Addr} {c : Nat} {l : List U.Pt} (h : Pts w B a c l) (hb : Below B w w') : Pts w' B a c l := by
  rcases h with h | ⟨g, off, rfl, hg, hc, hx⟩
  · exact .inl h
  · exact .inr ⟨g, off, rfl, hg, hc, fun j u hj => (hb.cell (p := ⟨g, off + j, none⟩) hg).trans (hx j u hj)⟩
theorem Pts.mono {w : World} {B B' : Nat} {a : Option Addr} {c : Nat} {l : List U.Pt} (h : Pts w B a c l) (hB : B ≤ B') : Pts w B' a c l := by
  rcases h with h | ⟨g, off, rfl, hg, hc, hx⟩
  · exact .inl h
  · exact .inr ⟨g, off, rfl, by omega, hc, hx⟩
theorem ptsCells_app (l m : List U.Pt) : ptsCells (l ++ m) = ptsCells l ++ ptsCells m := by simp [ptsCells]
theorem ptsCells_len (l : List U.Pt) : (ptsCells l).length = l.length * 4 := by
  induction l with
  | nil => rfl
  | cons x l ih => simp only [ptsCells, List.flatMap_cons, List.length_append] at ih ⊢; rw [ih]; simp [ptCells]; omega
theorem ptsCells_sub (l : List U.Pt) (i n q : Nat) (u : Value) (hi : i ≤ l.length) (h : (ptsCells ((l.drop i).take n))[q]? = some u) : (ptsCells l)[i * 4 + q]? = some u := by
  have e : ptsCells l = ptsCells (l.take i) ++ (ptsCells ((l.drop i).take n) ++ ptsCells ((l.drop i).drop n)) := by
    rw [← ptsCells_app, ← ptsCells_app, List.take_append_drop, List.take_append_drop]
  have hl : (ptsCells (l.take i)).length = i * 4 := by rw [ptsCells_len, List.length_take]; omega
  rw [e, List.getElem?_append_right (by omega), hl, show i * 4 + q - i * 4 = q by omega]
  have hq : q < (ptsCells ((l.drop i).take n)).length := (List.getElem?_eq_some_iff.1 h).1
  rw [List.getElem?_append_left hq]
  exact h
theorem Pts.of_some {w : World} {B : Nat} {g off c : Nat} {l : List U.Pt} (hg : g < B) (hc : l.length ≤ c) (hx : ∀ j u, (ptsCells l)[j]? = some u → w.cell? ⟨g, off + j, none⟩ = some u) : Pts w B (some ⟨g, off, none⟩) c l := .inr ⟨g, off, rfl, hg, hc, hx⟩
/-- a slice of a slice -/
theorem Pts.sub {w : World} {B g off : Nat} {c : Nat} {l : List U.Pt} (h : Pts w B (some ⟨g, off, none⟩) c l) (i j : Nat) (hij : i ≤ j) (hj : j ≤ l.length) :
    Pts w B (some ⟨g, off + i * 4, none⟩) (c - i) ((l.drop i).take (j - i)) := by
  rcases h with ⟨h, _⟩ | ⟨g', off', h, hg, hc, hx⟩
  · cases h
  · injection h with h
    injection h with h1 h2
    subst h1 h2
    refine .inr ⟨g, off + i * 4, rfl, hg, ?_, fun q u hq => ?_⟩
    · rw [List.length_take, List.length_drop]; omega
    · rw [Nat.add_assoc]
      exact hx _ u (ptsCells_sub l i (j - i) q u (by omega) hq)
/-- an element -/
theorem Pts.at {w : World} {B : Nat} {a : Option Addr} {c : Nat} {l : List U.Pt} (h : Pts w B a c l) (i : Nat) (hi : i < l.length) :
    ∃ g off, a = some ⟨g, off, none⟩ ∧ g < B ∧ l.length ≤ c ∧ w.cell? ⟨g, off + i * 4, none⟩ = some (.int .i32 (l[i]'hi).r) ∧ w.cell? ⟨g, off + i * 4 + 1, none⟩ = some (.int .i64 (l[i]'hi).p.a)
      ∧ w.cell? ⟨g, off + i * 4 + 2, none⟩ = some (.int .i64 (l[i]'hi).p.l) ∧ w.cell? ⟨g, off + i * 4 + 3, none⟩ = some (.int .i64 (l[i]'hi).p.c) := by
  rcases h with ⟨_, _, h0⟩ | ⟨g, off, rfl, hb, hc, hx⟩
  · subst h0; simp at hi
  · obtain ⟨y0, y1, y2, y3⟩ := ptsCells_at l i hi
    exact ⟨g, off, rfl, hb, hc, hx _ _ y0, hx _ _ y1, hx _ _ y2, hx _ _ y3⟩
theorem Pts.of_own {w : World} {base B : Nat} {v : Value} {l : List U.Pt} (h : w.ownsRow base 86 4 v l.length (ptsCells l)) (hB : w.heap.size ≤ B) : ∃ a c, v = .slice a l.length c ∧ Pts w B a c l := by
  have hrow := Row.own h hB
  rcases h.2 with ⟨rfl, h0⟩ | ⟨g, cap, cur, rfl, _, hg, hn, _⟩
  · exact ⟨none, 0, by rw [h0], .inl ⟨rfl, rfl, List.length_eq_zero_iff.1 h0⟩⟩
  · refine ⟨some ⟨g, 0, none⟩, cap, rfl, .inr ⟨g, 0, rfl, ?_, hn, ?_⟩⟩
    · have := lt_of_heap hg; omega
    · intro j u hj
      rcases hrow.2.2 with ⟨h0, _⟩ | ⟨b', o', c', hv, hb, hc, hx⟩
      · rw [List.length_eq_zero_iff.1 h0] at hj; simp [ptsCells] at hj
      · injection hv with h1 h2 h3
        injection h1 with h1
        injection h1 with h1 h4
        subst h1 h4
        exact hx j u hj

/-- a reader in memory: the code points (which lie below B), how far they are read, the error that was noted -/
structure ReadAt (w : World) (b B : Nat) (l : List U.Pt) (i : Nat) (e : Int) (p : U.Pos) : Prop where
  blk : ∃ a c, Blk w b #[.slice a l.length c, .int .i64 i, .int .i64 e, .int .i64 p.a, .int .i64 p.l, .int .i64 p.c] 65 ∧ Pts w B a c l
  below : B ≤ b
  small : l.length ≤ 20000
  i_le : i ≤ l.length
  ok : ∀ x ∈ l, Lib.validRune x.r = true
theorem ReadAt.lt {w : World} {b B : Nat} {l : List U.Pt} {i : Nat} {e : Int} {p : U.Pos} (h : ReadAt w b B l i e p) : b < w.heap.size := by obtain ⟨_, _, h0, _⟩ := h.blk; exact h0.lt
theorem ReadAt.keep {w w' : World} {b B : Nat} {l : List U.Pt} {i : Nat} {e : Int} {p : U.Pos} (h : ReadAt w b B l i e p) (hb : Below w.heap.size w w') : ReadAt w' b B l i e p := by
  obtain ⟨a, c, h0, h1⟩ := h.blk
  have hB := h.below
  have hlt := h0.lt
  exact ⟨⟨a, c, h0.below hb hlt, h1.below (hb.mono (by omega))⟩, h.below, h.small, h.i_le, h.ok⟩
theorem ReadAt.drewN {w : World} {b B : Nat} {l : List U.Pt} {i : Nat} {e : Int} {p : U.Pos} (h : ReadAt w b B l i e p) (n : Nat) : ReadAt (w.drewN n) b B l i e p := h.keep (Below.drewN (Below.refl _ _) n)
/-- the place is moved -/
theorem ReadAt.move {w : World} {b B : Nat} {l : List U.Pt} {i : Nat} {e : Int} {p : U.Pos} (h : ReadAt w b B l i e p) {j : Nat} (hj : j ≤ l.length) (v : Int) (hv : v = j) : ReadAt (w.setCell ⟨b, 1, none⟩ (.int .i64 v)) b B l j e p := by
  subst hv
  obtain ⟨a, c, h0, h1⟩ := h.blk
  have hB := h.below
  exact ⟨⟨a, c, h0.set 1 _, h1.below ((Below.refl _ _).setCell hB _)⟩, h.below, h.small, hj, h.ok⟩
/-- an error is noted -/
theorem ReadAt.note {w : World} {b B : Nat} {l : List U.Pt} {i : Nat} {e : Int} {p : U.Pos} (h : ReadAt w b B l i e p) (E : Int) (q : U.Pos) :
    ReadAt ((((w.setCell ⟨b, 2, none⟩ (.int .i64 E)).setCell ⟨b, 3, none⟩ (.int .i64 q.a)).setCell ⟨b, 4, none⟩ (.int .i64 q.l)).setCell ⟨b, 5, none⟩ (.int .i64 q.c)) b B l i E q := by
  obtain ⟨a, c, h0, h1⟩ := h.blk
  have hB := h.below
  refine ⟨⟨a, c, (((h0.set 2 _).set 3 _).set 4 _).set 5 _, h1.below ?_⟩, h.below, h.small, h.i_le, h.ok⟩
  (repeat (with_reducible first | exact Below.refl _ _ | refine Below.setCell ?_ ?_ _ | refine Below.alloc ?_ ?_ _ | refine Below.drewN ?_ _ | refine Below.drew ?_)) <;> first | omega | (simp; omega) | (simp; done)
/-- its cells -/
theorem ReadAt.cells {w : World} {b B : Nat} {l : List U.Pt} {i : Nat} {e : Int} {p : U.Pos} (h : ReadAt w b B l i e p) :
    ∃ a c, (w.cell? ⟨b, 0, none⟩ = some (.slice a l.length c) ∧ w.cell? ⟨b, 1, none⟩ = some (.int .i64 i) ∧ w.cell? ⟨b, 2, none⟩ = some (.int .i64 e)
      ∧ w.cell? ⟨b, 3, none⟩ = some (.int .i64 p.a) ∧ w.cell? ⟨b, 4, none⟩ = some (.int .i64 p.l) ∧ w.cell? ⟨b, 5, none⟩ = some (.int .i64 p.c))
      ∧ (∀ j, w.frozen? ⟨b, j, none⟩ = false) ∧ Pts w B a c l := by
  obtain ⟨a, c, h0, h1⟩ := h.blk
  exact ⟨a, c, ⟨h0.cell 0, h0.cell 1, h0.cell 2, h0.cell 3, h0.cell 4, h0.cell 5⟩, fun j => h0.free j, h1⟩

theorem peek_at (l : List U.Pt) (i n : Nat) (h : i + n < l.length) : T.peek (l.drop i) n = (l[i + n]'h).r := by
  simp [T.peek, List.getElem?_drop, List.getElem?_eq_getElem h]
theorem peek_end (l : List U.Pt) (i n : Nat) (h : l.length ≤ i + n) : T.peek (l.drop i) n = -1 := by
  have : l[i + n]? = none := List.getElem?_eq_none h
  simp [T.peek, List.getElem?_drop, this]

set_option maxHeartbeats 1000000 in
theorem kind_any (r : Int) (w : World) :
    Calls Tryz.prog 53 #[.int .i32 r] w fun e w' => e = .returned (.int .i64 (T.kindR r)) ∧ w' = w := by
  obtain ⟨k, hk⟩ : ∃ k, T.kindR r = k := ⟨_, rfl⟩
  rw [hk]
  have HK := Lib.hid hk
  clear hk
  go_enter Tryz.func53, Tryz.ntmps53
  go_wp2
  all_goals
    go_ret
    refine ⟨ret_i ?_, rfl⟩
    have hk := HK.out
    unfold T.kindR at hk
    try simp at *
    revert hk
    repeat' split
    all_goals (intro hk; omega)

set_option maxHeartbeats 1000000 in
theorem what_any (r : Int) (w : World) :
    Calls Tryz.prog 82 #[.int .i32 r] w fun e w' => e = .returned (.int .i32 (T.what r)) ∧ w' = w := by
  obtain ⟨k, hk⟩ : ∃ k, T.what r = k := ⟨_, rfl⟩
  rw [hk]
  have HK := Lib.hid hk
  clear hk
  go_enter Tryz.func82, Tryz.ntmps82
  go_wp2
  all_goals
    go_ret
    refine ⟨ret_r ?_, rfl⟩
    have hk := HK.out
    unfold T.what at hk
    try simp at *
    revert hk
    repeat' split
    all_goals (intro hk; omega)

set_option maxHeartbeats 1000000 in
theorem peek_any (b B i n : Nat) (l : List U.Pt) (e : Int) (p : U.Pos) (w : World) (h : ReadAt w b B l i e p) (hn : n ≤ 20000) :
    Calls Tryz.prog 51 #[.pointer (some ⟨b, 0, none⟩), .int .i64 n] w fun o w' => o = .returned (.int .i32 (T.peek (l.drop i) n)) ∧ ∃ k, w' = w.drewN k := by
  obtain ⟨a, c, ⟨c0, c1, _, _, _, _⟩, _, hrow⟩ := h.cells
  have hs := h.small
  have hi := h.i_le
  obtain ⟨m, hm⟩ : ∃ m, l.length = m := ⟨_, rfl⟩
  have HM := Lib.hid hm
  rw [hm] at c0 hs hi
  by_cases hlt : i + n < m
  · obtain ⟨g, off, rfl, hg, hc, d0, _, _, _⟩ := hrow.at (i + n) (by omega)
    rw [hm] at hc
    rw [peek_at l i n (by omega)]
    obtain ⟨r, hr⟩ : ∃ r, (l[i + n]'(by omega)).r = r := ⟨_, rfl⟩
    rw [hr] at d0 ⊢
    clear hr hrow
    have t1 : ((i : Int) + (n : Int)).toNat = i + n := by omega
    have hnot : (decide ((m : Int) ≤ (i : Int) + (n : Int))) = false := by simp; omega
    go_enter Tryz.func51, Tryz.ntmps51
    go_wp2
    go_quiet (fail)
    go_wp2
    go_quiet (fail)
    go_wp2
    go_ret
    exact ⟨rfl, _, World.drewN_drewN _ _ _⟩
  · rw [peek_end l i n (by omega)]
    clear hrow hm
    go_enter Tryz.func51, Tryz.ntmps51
    go_wp2
    go_quiet (fail)
    go_wp2
    go_ret
    exact ⟨rfl, _, rfl⟩


/-- a token as it is handed back -/
def tokV (k : T.Tok) : Value := .agg #[.int .u8 k.k, .string ⟨k.t.toArray⟩, .int .i64 k.n, .int .i64 k.p.a, .int .i64 k.p.l, .int .i64 k.p.c]
def tokZ : Value := .agg #[.int .u8 0, .string ByteArray.empty, .int .i64 0, .int .i64 0, .int .i64 0, .int .i64 0]

set_option maxHeartbeats 1000000 in
theorem fails_any (b B i j : Nat) (l : List U.Pt) (E : Int) (p : U.Pos) (w : World) (h : ReadAt w b B l i 0 p) (hj : j < l.length) :
    Calls Tryz.prog 79 #[.pointer (some ⟨b, 0, none⟩), .int .i64 E, .int .i64 j] w fun o w' =>
      o = .returned tokZ ∧ ReadAt w' b B l i E (l[j]'hj).p ∧ Keep b w w' := by
  obtain ⟨a, c, ⟨c0, c1, c2, c3, c4, c5⟩, hf, hrow⟩ := h.cells
  have hs := h.small
  have hi := h.i_le
  have hb := h.lt
  obtain ⟨m, hm⟩ : ∃ m, l.length = m := ⟨_, rfl⟩
  have HM := Lib.hid hm
  rw [hm] at c0 hs hi
  obtain ⟨g, off, rfl, hg, hc, _, d1, d2, d3⟩ := hrow.at j (by omega)
  rw [hm] at hc
  obtain ⟨q, hq⟩ : ∃ q, (l[j]'hj).p = q := ⟨_, rfl⟩
  rw [hq] at d1 d2 d3 ⊢
  have f2 := hf 2; have f3 := hf 3; have f4 := hf 4; have f5 := hf 5
  clear hq hf
  have hjm : (j : Int) < (m : Int) := by omega
  have hgw : g < w.heap.size := by have := h.below; omega
  have e2 : w.cell? ⟨g, off + j * 4 + 1 + 1, none⟩ = some (.int .i64 q.l) := d2
  have e3 : w.cell? ⟨g, off + j * 4 + 1 + 2, none⟩ = some (.int .i64 q.c) := d3
  have hgb : g ≠ b := by have := h.below; omega
  go_enter Tryz.func79, Tryz.ntmps79
  go_wp2
  refine bodyPost_ret (v := tokZ) (by simp [results, Tryz.results79, go_sem, tokZ]; rfl) rfl ⟨rfl, ?_, ?_⟩
  · refine (h.note E q).keep ?_
    (repeat (with_reducible first | exact Below.refl _ _ | refine Below.setCell ?_ ?_ _ | refine Below.alloc ?_ ?_ _ | refine Below.drewN ?_ _ | refine Below.drew ?_)) <;> first | omega | (simp; omega) | (simp; done)
  · repeat (with_reducible first | exact Keep.refl _ _ | refine Keep.alloc ?_ _ | refine Keep.setOwn ?_ _ _)
end Go.Proofs.YtaojgcioljcpmaaGreatDoor
