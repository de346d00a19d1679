/- Small laws about worlds, rows of cells and values, of no program. -/
import Derived.WalkKit
import Derived.WalkSmall
import Derived.OneCell
import Derived.Lib.Hide
import Derived.Test.YtnneooidkbhbeaaGreatDoorRows
import Derived.Deep.Slices
import Derived.ChangeArms
import Derived.KernelRfl
import Derived.Test.YtnneooidkbhbeaaGreatDoorChecked
import Derived.Deep.Light
import Derived.StillTail
import Derived.Deep.QuietTactic
import Derived.BigQuiet
import Derived.Test.YtnneooidkbhbeaaGreatDoorProg
set_option linter.unusedVariables false
set_option linter.unusedSimpArgs false
namespace Go.Proofs.YtnneooidkbhbeaaGreatDoor
open Go.RowKit

/-- the cells of a block that has just been laid -/
theorem cells_new (w : World) (b : Nat) (news : List Value) (t : TypeId) (hb : b = w.heap.size) :
    ∀ j u, news[j]? = some u → (w.alloc (.cells news.toArray t)).cell? ((⟨b, 0, none⟩ : Addr).add j) = some u := by
  intro j u hj
  subst hb
  have hadd : (⟨w.heap.size, 0, none⟩ : Addr).add j = ⟨w.heap.size, j, none⟩ := by unfold Addr.add; split <;> simp_all
  rw [hadd, cell_of_row _ w.heap.size j news.toArray t (0, 0) (heap_alloc_new w _)]
  simpa using hj

/-- an owned row stands in every later world that keeps its block -/
theorem own_keep {w w' : World} {base : Nat} {e : TypeId} {size : Nat} {v : Value} {n : Nat} {xs : List Value} (h : w.ownsRow base e size v n xs)
    (hk : ∀ g, v.ownBlock = some g → w'.heap[g]? = w.heap[g]?) : w'.ownsRow base e size v n xs := by
  refine ⟨h.1, ?_⟩
  rcases h.2 with hn | ⟨g, cap, cur, rfl, hb, hgg, rest⟩
  · exact .inl hn
  · exact .inr ⟨g, cap, cur, rfl, hb, by rw [hk g rfl]; exact hgg, rest⟩

theorem own_below {w w' : World} {B base : Nat} {e : TypeId} {size : Nat} {v : Value} {n : Nat} {xs : List Value} (h : w.ownsRow base e size v n xs)
    (hb : Below B w w') (hB : w.heap.size ≤ B) : w'.ownsRow base e size v n xs :=
  own_keep h fun g hg => hb.block g (by have := (h.lt g hg).2; omega)

theorem own_base {w : World} {base base' : Nat} {e : TypeId} {size : Nat} {v : Value} {n : Nat} {xs : List Value} (h : w.ownsRow base e size v n xs)
    (hb : base' ≤ base) : w.ownsRow base' e size v n xs := by
  refine ⟨h.1, ?_⟩
  rcases h.2 with hn | ⟨g, cap, cur, rfl, hbg, rest⟩
  · exact .inl hn
  · exact .inr ⟨g, cap, cur, rfl, by omega, rest⟩

theorem own_slice {w : World} {base : Nat} {e : TypeId} {size : Nat} {v : Value} {n : Nat} {xs : List Value} (h : w.ownsRow base e size v n xs) : ∃ a cap, v = .slice a n cap := by
  rcases h.2 with ⟨rfl, rfl⟩ | ⟨g, cap, cur, rfl, _⟩
  · exact ⟨none, 0, rfl⟩
  · exact ⟨_, cap, rfl⟩

/-- what a callee leaves, behind what its caller has done -/
theorem below_call {w W W' : World} (h : Below w.heap.size w W) (hb : Below W.heap.size W W') : Below w.heap.size w W' := h.trans (hb.mono h.size)

/-- a block reads on as it read -/
theorem block_below {w w' : World} {B k : Nat} {o : Obj} (hb : Below B w w') (h : w.heap[k]? = some o) (hk : k < B) : w'.heap[k]? = some o := (hb.block k hk).trans h

theorem lt_of_heap {w : World} {b : Nat} {o : Obj} (h : w.heap[b]? = some o) : b < w.heap.size := (Array.getElem?_eq_some_iff.1 h).1

/-- WHAT A SLICE READS AS: n elements of some size, whose cells one behind the other are xs; the block lies below B. -/
def Row (w : World) (B : Nat) (size : Nat) (v : Value) (n : Nat) (xs : List Value) : Prop :=
  xs.length = n * size ∧ n ≤ maxLen ∧
  ((n = 0 ∧ ∃ a c, v = .slice a 0 c) ∨
   ∃ b off cap, v = .slice (some ⟨b, off, none⟩) n cap ∧ b < B ∧ n ≤ cap ∧ ∀ j u, xs[j]? = some u → w.cell? ⟨b, off + j, none⟩ = some u)

theorem Row.below {w w' : World} {B size : Nat} {v : Value} {n : Nat} {xs : List Value} (h : Row w B size v n xs) (hb : Below B w w') : Row w' B size v n xs := by
  obtain ⟨h1, h2, h3⟩ := h
  refine ⟨h1, h2, ?_⟩
  rcases h3 with hn | ⟨b, off, cap, rfl, hB, hc, hx⟩
  · exact .inl hn
  · exact .inr ⟨b, off, cap, rfl, hB, hc, fun j u hj => (hb.cell (p := ⟨b, off + j, none⟩) hB).trans (hx j u hj)⟩

theorem Row.mono {w : World} {B B' size : Nat} {v : Value} {n : Nat} {xs : List Value} (h : Row w B size v n xs) (hB : B ≤ B') : Row w B' size v n xs := by
  obtain ⟨h1, h2, h3⟩ := h
  refine ⟨h1, h2, ?_⟩
  rcases h3 with hn | ⟨b, off, cap, rfl, hb, hc, hx⟩
  · exact .inl hn
  · exact .inr ⟨b, off, cap, rfl, by omega, hc, hx⟩

theorem Row.own {w : World} {B base : Nat} {e : TypeId} {size : Nat} {v : Value} {n : Nat} {xs : List Value} (h : w.ownsRow base e size v n xs) (hB : w.heap.size ≤ B) : Row w B size v n xs := by
  rcases h.2 with ⟨rfl, rfl⟩ | ⟨g, cap, cur, rfl, hb, hg, hn, hc, hs, ht⟩
  · exact ⟨h.1, Nat.zero_le _, .inl ⟨rfl, _, _, rfl⟩⟩
  · refine ⟨h.1, by omega, .inr ⟨g, 0, cap, rfl, by have := lt_of_heap hg; omega, hn, fun j u hj => ?_⟩⟩
    have := h.cells (g := g) rfl j u hj
    have hadd : (⟨g, 0, none⟩ : Addr).add j = ⟨g, 0 + j, none⟩ := by unfold Addr.add; split <;> simp_all
    rwa [hadd] at this
theorem Row.slice {w : World} {B size : Nat} {v : Value} {n : Nat} {xs : List Value} (h : Row w B size v n xs) : ∃ a cap, v = .slice a n cap := by
  rcases h.2.2 with ⟨rfl, a, c, rfl⟩ | ⟨b, off, cap, rfl, _⟩
  · exact ⟨a, c, rfl⟩
  · exact ⟨_, _, rfl⟩

/-- a block whose cells are known, written whole -/
def Blk (w : World) (b : Nat) (cs : Array Value) (t : TypeId) : Prop := w.heap[b]? = some (.cells cs t (0, 0))

theorem Blk.cell {w : World} {b : Nat} {cs : Array Value} {t : TypeId} (h : Blk w b cs t) (j : Nat) : w.cell? ⟨b, j, none⟩ = cs[j]? := cell_of_row w b j cs t (0, 0) h
theorem Blk.free {w : World} {b : Nat} {cs : Array Value} {t : TypeId} (h : Blk w b cs t) (j : Nat) : w.frozen? ⟨b, j, none⟩ = false := by
  unfold Blk at h
  simp [World.frozen?, h]
theorem Blk.lt {w : World} {b : Nat} {cs : Array Value} {t : TypeId} (h : Blk w b cs t) : b < w.heap.size := lt_of_heap h
theorem Blk.set {w : World} {b : Nat} {cs : Array Value} {t : TypeId} (h : Blk w b cs t) (j : Nat) (v : Value) : Blk (w.setCell ⟨b, j, none⟩ v) b (cs.setIfInBounds j v) t := by
  have hlt := h.lt
  unfold Blk at h ⊢
  have h' : w.heap[b] = .cells cs t (0, 0) := by simpa [Array.getElem?_eq_getElem hlt] using h
  show (w.heap.modify b _)[b]? = _
  rw [Array.getElem?_eq_getElem (by simpa using hlt), Array.getElem_modify_self, h']
  rfl
theorem Blk.setOther {w : World} {b : Nat} {cs : Array Value} {t : TypeId} (h : Blk w b cs t) {a : Addr} (ha : b ≠ a.block) (v : Value) : Blk (w.setCell a v) b cs t := by
  unfold Blk at h ⊢
  rw [Below.heap_setCell _ _ _ _ ha]; exact h
theorem Blk.alloc {w : World} {b : Nat} {cs : Array Value} {t : TypeId} (h : Blk w b cs t) (o : Obj) : Blk (w.alloc o) b cs t := by
  have := h.lt
  unfold Blk at h ⊢
  rw [Below.heap_alloc _ _ _ this]; exact h
theorem Blk.below {w w' : World} {b B : Nat} {cs : Array Value} {t : TypeId} (h : Blk w b cs t) (hb : Below B w w') (hB : b < B) : Blk w' b cs t := block_below hb h hB
theorem Blk.new (w : World) (b : Nat) (cs : Array Value) (t : TypeId) (hb : b = w.heap.size) : Blk (w.alloc (.cells cs t)) b cs t := by subst hb; exact heap_alloc_new w _
theorem Blk.iterAt {w : World} {b k : Nat} {cs : Array Value} {t : TypeId} (h : Blk w b cs t) (hk : b ≠ k) (s : ByteArray) (p : Nat) : Blk (w.iterAt k s p) b cs t := by
  unfold Blk at h ⊢
  rw [Lib.iterAt_other _ _ _ _ _ hk]; exact h
theorem Blk.drew {w : World} {b : Nat} {cs : Array Value} {t : TypeId} (h : Blk w b cs t) : Blk w.drew b cs t := h
theorem own_drew {w : World} {base : Nat} {e : TypeId} {size : Nat} {v : Value} {n : Nat} {xs : List Value} (h : w.ownsRow base e size v n xs) : w.drew.ownsRow base e size v n xs := h
theorem Blk.of {w w' : World} {b : Nat} {cs : Array Value} {t : TypeId} (h : Blk w b cs t) (hk : w'.heap[b]? = w.heap[b]?) : Blk w' b cs t := hk.trans h
/-- draws turn no block -/
theorem Below.drewN {B : Nat} {a w : World} (h : Below B a w) (n : Nat) : Below B a (w.drewN n) := ⟨h.os, h.tape, h.output, h.size, h.block⟩

/-- an old cell past new blocks -/
theorem cell_al1 {w : World} {p : Addr} {u : Value} (h : w.cell? p = some u) (hb : p.block < w.heap.size) (o1 : Obj) : (w.alloc o1).cell? p = some u :=
  (((Below.refl _ _).alloc (Nat.le_refl _) o1).cell hb).trans h
theorem cell_al2 {w : World} {p : Addr} {u : Value} (h : w.cell? p = some u) (hb : p.block < w.heap.size) (o1 o2 : Obj) : ((w.alloc o1).alloc o2).cell? p = some u :=
  cell_al1 (cell_al1 h hb o1) (by simp; omega) o2
theorem cell_al3 {w : World} {p : Addr} {u : Value} (h : w.cell? p = some u) (hb : p.block < w.heap.size) (o1 o2 o3 : Obj) : (((w.alloc o1).alloc o2).alloc o3).cell? p = some u :=
  cell_al1 (cell_al2 h hb o1 o2) (by simp; omega) o3
end Go.Proofs.YtnneooidkbhbeaaGreatDoor
/- Nested Go data (ints, bools, strings, structs, slices of these) as one Lean value, and what it means that a value in memory reads as it. Of no program. -/
namespace Go.Proofs.YtnneooidkbhbeaaGreatDoor
open Go.RowKit Go.ChangeShapes Go.WideShapes

/-- what lies in one cell: a slice is of so many elements, each of 'size' cells, laid flat -/
inductive D where
  | int (k : IntKind) (z : Int)
  | bool (b : Bool)
  | str (s : ByteArray)
  | list (size n : Nat) (ds : List D)

mutual
def D.wt : D → Nat
  | .int _ _ => 1
  | .bool _ => 1
  | .str s => s.size + 1
  | .list _ _ ds => D.wts ds + 1
def D.wts : List D → Nat
  | [] => 0
  | d :: r => d.wt + D.wts r
end

/-- the value v, in the world w, below block B, reads as d -/
inductive Rd (w : World) (B : Nat) : Value → D → Prop
  | int {k : IntKind} {z : Int} (h : (Lit.int k z).wf = true) : Rd w B (.int k z) (.int k z)
  | bool {b : Bool} : Rd w B (.bool b) (.bool b)
  | str {s : ByteArray} (h : s.size ≤ maxLen) : Rd w B (.string s) (.str s)
  | list {size n : Nat} {v : Value} {xs : List Value} {ds : List D} (h : Row w B size v n xs) (hl : ds.length = xs.length) (he : ∀ (j : Nat) (u : Value) (d : D), xs[j]? = some u → ds[j]? = some d → Rd w B u d) : Rd w B v (.list size n ds)

/-- cells read as a list -/
def Rds (w : World) (B : Nat) (us : List Value) (ds : List D) : Prop := ds.length = us.length ∧ ∀ (j : Nat) (u : Value) (d : D), us[j]? = some u → ds[j]? = some d → Rd w B u d

theorem Rd.keep {w w' : World} {B : Nat} {v : Value} {d : D} (h : Rd w B v d) (hb : Below B w w') : Rd w' B v d := by
  induction h with
  | int h => exact .int h
  | bool => exact .bool
  | str h => exact .str h
  | list h hl _ ih => exact .list (h.below hb) hl ih

theorem Rd.mono {w : World} {B B' : Nat} {v : Value} {d : D} (h : Rd w B v d) (hB : B ≤ B') : Rd w B' v d := by
  induction h with
  | int h => exact .int h
  | bool => exact .bool
  | str h => exact .str h
  | list h hl _ ih => exact .list (h.mono hB) hl ih

theorem Rds.keep {w w' : World} {B : Nat} {us : List Value} {ds : List D} (h : Rds w B us ds) (hb : Below B w w') : Rds w' B us ds := ⟨h.1, fun j u d hu hd => (h.2 j u d hu hd).keep hb⟩
theorem Rds.mono {w : World} {B B' : Nat} {us : List Value} {ds : List D} (h : Rds w B us ds) (hB : B ≤ B') : Rds w B' us ds := ⟨h.1, fun j u d hu hd => (h.2 j u d hu hd).mono hB⟩
theorem Rds.nil {w : World} {B : Nat} : Rds w B [] [] := ⟨rfl, fun j u d hu => by simp at hu⟩
theorem Rds.cons {w : World} {B : Nat} {u : Value} {us : List Value} {d : D} {ds : List D} (h : Rd w B u d) (hs : Rds w B us ds) : Rds w B (u :: us) (d :: ds) :=
  ⟨by simp [hs.1], fun j u' d' hu hd => by
    cases j with
    | zero => simp at hu hd; subst hu hd; exact h
    | succ j => simp at hu hd; exact hs.2 j _ _ hu hd⟩
theorem Rds.cons_inv {w : World} {B : Nat} {us : List Value} {d : D} {ds : List D} (h : Rds w B us (d :: ds)) : ∃ u us', us = u :: us' ∧ Rd w B u d ∧ Rds w B us' ds := by
  obtain ⟨hl, he⟩ := h
  cases us with
  | nil => simp at hl
  | cons u us => exact ⟨u, us, rfl, he 0 u d rfl rfl, by simpa using hl, fun j u' d' hu hd => he (j + 1) u' d' (by simpa using hu) (by simpa using hd)⟩
theorem Rds.nil_inv {w : World} {B : Nat} {us : List Value} (h : Rds w B us []) : us = [] := by
  have := h.1; simp at this; exact List.eq_nil_of_length_eq_zero this.symm
theorem Rds.append {w : World} {B : Nat} {us us' : List Value} {ds ds' : List D} (h : Rds w B us ds) (h' : Rds w B us' ds') : Rds w B (us ++ us') (ds ++ ds') := by
  refine ⟨by simp [h.1, h'.1], fun j u d hu hd => ?_⟩
  by_cases hj : j < us.length
  · rw [List.getElem?_append_left hj] at hu
    rw [List.getElem?_append_left (by rw [h.1]; exact hj)] at hd
    exact h.2 j u d hu hd
  · rw [List.getElem?_append_right (by omega)] at hu
    rw [List.getElem?_append_right (by rw [h.1]; omega), h.1] at hd
    exact h'.2 _ u d hu hd
theorem Rd.list_inv {w : World} {B : Nat} {v : Value} {size n : Nat} {ds : List D} (h : Rd w B v (.list size n ds)) : ∃ xs, Row w B size v n xs ∧ Rds w B xs ds := by
  cases h with
  | list h hl he => exact ⟨_, h, hl, he⟩
theorem Rd.mk {w : World} {B : Nat} {v : Value} {size n : Nat} {ds : List D} {xs : List Value} (h : Row w B size v n xs) (h' : Rds w B xs ds) : Rd w B v (.list size n ds) := .list h h'.1 h'.2
theorem Rd.int_inv {w : World} {B : Nat} {v : Value} {k : IntKind} {z : Int} (h : Rd w B v (.int k z)) : v = .int k z ∧ (Lit.int k z).wf = true := by cases h with | int h => exact ⟨rfl, h⟩
theorem Rd.bool_inv {w : World} {B : Nat} {v : Value} {b : Bool} (h : Rd w B v (.bool b)) : v = .bool b := by cases h; rfl
theorem Rd.str_inv {w : World} {B : Nat} {v : Value} {s : ByteArray} (h : Rd w B v (.str s)) : v = .string s ∧ s.size ≤ maxLen := by cases h with | str h => exact ⟨rfl, h⟩
theorem Rd.slice_inv {w : World} {B : Nat} {v : Value} {size n : Nat} {ds : List D} (h : Rd w B v (.list size n ds)) : ∃ a cap, v = .slice a n cap := by
  obtain ⟨xs, hr, _⟩ := h.list_inv
  exact hr.slice
theorem Rd.len_inv {w : World} {B : Nat} {v : Value} {size n : Nat} {ds : List D} (h : Rd w B v (.list size n ds)) : ds.length = n * size ∧ n ≤ maxLen := by
  obtain ⟨xs, hr, hl, _⟩ := h.list_inv
  exact ⟨hl.trans hr.1, hr.2.1⟩

/-- the flat cells of a list of structs -/
theorem flat_len {α β : Type} (f : α → List β) (k : Nat) (hf : ∀ x, (f x).length = k) : ∀ l : List α, (l.flatMap f).length = l.length * k
  | [] => by simp
  | x :: l => by simp only [List.flatMap_cons, List.length_append, hf, flat_len f k hf l, List.length_cons, Nat.succ_mul]; omega
theorem flat_get {α β : Type} (f : α → List β) (k : Nat) (hf : ∀ x, (f x).length = k) : ∀ (l : List α) (i j : Nat) (h : i < l.length), j < k → (l.flatMap f)[i * k + j]? = (f l[i])[j]?
  | x :: l, 0, j, h, hj => by
    simp only [List.flatMap_cons, Nat.zero_mul, Nat.zero_add, List.getElem_cons_zero]
    rw [List.getElem?_append_left (by rw [hf]; exact hj)]
  | x :: l, i + 1, j, h, hj => by
    simp only [List.flatMap_cons, List.getElem_cons_succ]
    have hk : k ≤ (i + 1) * k + j := by rw [Nat.succ_mul]; omega
    rw [List.getElem?_append_right (by rw [hf]; exact hk), hf]
    have : (i + 1) * k + j - k = i * k + j := by rw [Nat.succ_mul]; omega
    rw [this]
    exact flat_get f k hf l i j (by simpa using h) hj
theorem flat_take {α β : Type} (f : α → List β) (k : Nat) (hf : ∀ x, (f x).length = k) (l : List α) (i : Nat) (h : i < l.length) : ((l.flatMap f).drop (i * k)).take k = f l[i] := by
  apply List.ext_getElem?
  intro j
  by_cases hj : j < k
  · rw [List.getElem?_take_of_lt hj, List.getElem?_drop, flat_get f k hf l i j h hj]
  · rw [List.getElem?_eq_none (by simp; omega), List.getElem?_eq_none (by rw [hf]; omega)]

/-- an element of a slice of structs: where it lies, and what its cells read as -/
theorem Rd.elem {α : Type} {w : World} {B k : Nat} {v : Value} {f : α → List D} {l : List α} {n : Nat} (h : Rd w B v (.list k n (l.flatMap f))) (hf : ∀ x, (f x).length = k) (hn : n = l.length) (i : Nat) (hi : i < l.length) (hk : 0 < k) :
    ∃ b off cap us, v = .slice (some ⟨b, off, none⟩) l.length cap ∧ b < B ∧ l.length ≤ cap ∧ (∀ j u, us[j]? = some u → w.cell? ⟨b, off + i * k + j, none⟩ = some u) ∧ Rds w B us (f l[i]) := by
  subst hn
  obtain ⟨xs, ⟨hx, hm, hr⟩, hl, he⟩ := h.list_inv
  rcases hr with ⟨h0, _⟩ | ⟨b, off, cap, rfl, hb, hc, hcell⟩
  · omega
  refine ⟨b, off, cap, (xs.drop (i * k)).take k, rfl, hb, hc, fun j u hu => ?_, ?_, fun j u d hu hd => ?_⟩
  · rw [List.getElem?_take] at hu
    split at hu
    · rw [List.getElem?_drop] at hu
      rw [Nat.add_assoc]; exact hcell _ _ hu
    · cases hu
  · have : i * k + k ≤ l.length * k := by rw [← Nat.succ_mul]; exact Nat.mul_le_mul_right _ hi
    rw [hf, List.length_take, List.length_drop, hx]; omega
  · rw [List.getElem?_take] at hu
    split at hu
    · rename_i hjk
      rw [List.getElem?_drop] at hu
      exact he _ u d hu (by rw [flat_get f k hf l i j hi hjk]; exact hd)
    · cases hu

/-! ### From the form's own reading -/
/-- the shape that a type gives -/
inductive Has (P : Program) : TypeId → List D → Prop
  | int {t k z} (h : P.underlying t = some (.int k)) (hw : (Lit.int k z).wf = true) : Has P t [.int k z]
  | bool {t b} (h : P.underlying t = some .bool) : Has P t [.bool b]
  | str {t s} (h : P.underlying t = some .string) (hs : s.size ≤ maxLen) : Has P t [.str s]
  | slice {t e} {n : Nat} {ds : List D} (h : P.underlying t = some (.slice e)) (hl : ds.length = n * P.cellsOf e) (he : ∀ i, i < n → Has P e ((ds.drop (i * P.cellsOf e)).take (P.cellsOf e))) : Has P t [.list (P.cellsOf e) n ds]
  | struct {t fs} {ds : List D} (h : P.underlying t = some (.struct fs)) (hl : ds.length = P.cellsOf t) (he : ∀ (i : Nat) (f : Field), fs[i]? = some f → Has P f.type ((ds.drop f.offset).take (P.cellsOf f.type))) : Has P t ds

section
variable {H : Type} {enc : TypeId × Value → H} {P : Program} {w : World} {base : Nat} {spare : Nat → Bool} {held : Bool}

/-- a list of D for a list of cells, chunk by chunk -/
theorem cells_of_add (a : Addr) (w : World) (i : Nat) (u : Value) (h : w.cell? (a.add i) = some u) (h0 : ∃ u0, w.cell? (a.add 0) = some u0) : w.cell? ⟨a.block, a.off + i, none⟩ = some u := by
  obtain ⟨u0, h0⟩ := h0
  have hs : a.spot = none := by
    have : a.add 0 = a := by simp [Addr.add]
    rw [this] at h0
    unfold World.cell? at h0
    split at h0
    · split at h0
      · cases h0
      · rename_i hn; simpa using hn
    · cases h0
  have : a.add i = ⟨a.block, a.off + i, none⟩ := by
    unfold Addr.add
    split
    · rename_i h; subst h; cases a; simp at hs; subst hs; simp
    · rfl
  rw [← this]; exact h

/-- a set of types that is closed, and plain -/
def lays (P : Program) : List Field → Nat → Nat → Bool
  | [], o, n => o == n
  | f :: r, o, n => f.offset == o && lays P r (o + P.cellsOf f.type) n
def plainT (P : Program) (ok : List TypeId) (t : TypeId) : Bool :=
  match P.underlying t with
  | some .bool => true
  | some (.int _) => true
  | some .string => true
  | some (.slice e) => ok.contains e && decide (0 < P.cellsOf e)
  | some (.struct fs) => fs.toList.all (fun f => ok.contains f.type) && lays P fs.toList 0 (P.cellsOf t)
  | _ => false
def plainAll (P : Program) (ok : List TypeId) : Bool := ok.all (plainT P ok)

theorem wts_append (a b : List D) : D.wts (a ++ b) = D.wts a + D.wts b := by
  induction a with
  | nil => simp [D.wts]
  | cons d a ih => simp only [List.cons_append, D.wts, ih]; omega
theorem wts_flat {ι : Type} (f : ι → List D) (g : ι → DataW H) (hfg : ∀ i, D.wts (f i) ≤ Rows.uptoBulk (g i)) : ∀ l : List ι, D.wts (l.flatMap f) ≤ Rows.uptoBulkAll (l.map g)
  | [] => by simp [D.wts]
  | i :: l => by
    have := wts_flat f g hfg l
    have := hfg i
    simp only [List.flatMap_cons, wts_append, List.map_cons, Rows.uptoBulkAll]; omega
theorem wts_flat_mem {ι : Type} (f : ι → List D) (g : ι → DataW H) : ∀ (l : List ι), (∀ i ∈ l, D.wts (f i) ≤ Rows.uptoBulk (g i)) → D.wts (l.flatMap f) ≤ Rows.uptoBulkAll (l.map g)
  | [], _ => by simp [D.wts]
  | i :: l, h => by
    have := wts_flat_mem f g l (fun j hj => h j (List.mem_cons_of_mem _ hj))
    have := h i (List.mem_cons_self ..)
    simp only [List.flatMap_cons, wts_append, List.map_cons, Rows.uptoBulkAll]; omega

theorem struct_aux {B : Nat} {cs : List Value} {n : Nat} (hn : cs.length = n) : ∀ (fl : List Field) (xs : List (DataW H)) (o : Nat), lays P fl o n = true → o ≤ n → xs.length = fl.length →
    (∀ (i : Nat) (f : Field) (x : DataW H), fl[i]? = some f → xs[i]? = some x → ∃ ds, Rds w B ((cs.drop f.offset).take (P.cellsOf f.type)) ds ∧ Has P f.type ds ∧ D.wts ds ≤ Rows.uptoBulk x) →
    ∃ ds, Rds w B (cs.drop o) ds ∧ (∀ (i : Nat) (f : Field), fl[i]? = some f → o ≤ f.offset ∧ Has P f.type ((ds.drop (f.offset - o)).take (P.cellsOf f.type))) ∧ D.wts ds ≤ Rows.uptoBulkAll xs
  | [], xs, o, hl, ho, hx, _ => by
    simp only [lays, beq_iff_eq] at hl
    subst hl
    rw [← hn, List.drop_length]
    exact ⟨[], Rds.nil, fun i f h => by simp at h, by simp [D.wts]⟩
  | f :: r, [], o, _, _, hx, _ => by simp at hx
  | f :: r, x :: xs, o, hl, ho, hx, hf => by
    simp only [lays, Bool.and_eq_true, beq_iff_eq] at hl
    obtain ⟨hfo, hl⟩ := hl
    obtain ⟨d0, hr0, hh0, hw0⟩ := hf 0 f x rfl rfl
    have hle : ∀ (r : List Field) (o : Nat), lays P r o n = true → o ≤ n := by
      intro r
      induction r with
      | nil => intro o h; simp only [lays, beq_iff_eq] at h; omega
      | cons g r ih => intro o h; simp only [lays, Bool.and_eq_true, beq_iff_eq] at h; have := ih _ h.2; omega
    have ho' := hle r _ hl
    obtain ⟨ds, hr, hh, hw⟩ := struct_aux hn r xs (o + P.cellsOf f.type) hl ho' (by simpa using hx) (fun i g y hg hy => hf (i + 1) g y (by simpa using hg) (by simpa using hy))
    rw [hfo] at hr0
    have hd0 : d0.length = P.cellsOf f.type := by rw [hr0.1, List.length_take, List.length_drop]; omega
    refine ⟨d0 ++ ds, ?_, ?_, by simp only [wts_append, Rows.uptoBulkAll]; omega⟩
    · have : cs.drop o = (cs.drop o).take (P.cellsOf f.type) ++ cs.drop (o + P.cellsOf f.type) := by
        rw [← List.drop_drop]; exact (List.take_append_drop _ _).symm
      rw [this]
      exact hr0.append hr
    · intro i g hg
      cases i with
      | zero =>
        simp at hg; subst hg
        refine ⟨by omega, ?_⟩
        rw [hfo, Nat.sub_self, List.drop_zero, List.take_append_of_le_length (by omega), List.take_of_length_le (by omega)]
        exact hh0
      | succ i =>
        obtain ⟨h1, h2⟩ := hh i g (by simpa using hg)
        refine ⟨by omega, ?_⟩
        have : (d0 ++ ds).drop (g.offset - o) = ds.drop (g.offset - (o + P.cellsOf f.type)) := by
          rw [List.drop_append, List.drop_of_length_le (by omega), List.nil_append, hd0]; congr 1; omega
        rw [this]; exact h2

theorem rd_of_trod {B : Nat} (ok : List TypeId) (hok : plainAll P ok = true) : ∀ (fuel : Nat) (t : TypeId) (cs : List Value) (x : DataW H × List MemPlace), t ∈ ok → DataW.trod enc P w base spare held fuel t cs = some x → (∀ p ∈ x.2, p.block < B) →
    ∃ ds, Rds w B cs ds ∧ Has P t ds ∧ D.wts ds ≤ Rows.uptoBulk x.1 := by
  intro fuel
  induction fuel with
  | zero => intro t cs x _ h; simp [DataW.trod] at h
  | succ fuel ih =>
    intro t cs x ht h hB
    have hp : plainT P ok t = true := List.all_eq_true.1 hok t ht
    unfold plainT at hp
    split at hp
    · rename_i hu
      obtain ⟨b, rfl, rfl⟩ := DataW.trod_bool hu h
      exact ⟨[.bool b], Rds.cons .bool Rds.nil, .bool hu, by simp [D.wts, D.wt, Rows.uptoBulk]⟩
    · rename_i k hu
      obtain ⟨z, rfl, rfl, hw⟩ := DataW.trod_int hu h
      exact ⟨[.int k z], Rds.cons (.int hw) Rds.nil, .int hu hw, by simp [D.wts, D.wt, Rows.uptoBulk]⟩
    · rename_i hu
      obtain ⟨s, rfl, rfl, hs⟩ := DataW.trod_string hu h
      refine ⟨[.str s], Rds.cons (.str hs) Rds.nil, .str hu hs, ?_⟩
      simp only [D.wts, D.wt, Rows.uptoBulk, Array.length_toList]
      exact Nat.le_refl _
    · rename_i e hu
      simp only [Bool.and_eq_true, decide_eq_true_eq] at hp
      obtain ⟨hp, hk⟩ := hp
      have he : e ∈ ok := by simpa using hp
      rcases DataW.trod_slice hu h with ⟨rfl, rfl⟩ | ⟨a, len, cap, elems, rest, n, hfn, rfl, rfl, hb, hl, hm, hlen, hel, _⟩
      · refine ⟨[.list (P.cellsOf e) 0 []], Rds.cons (.list (xs := []) ⟨by simp, Nat.zero_le _, .inl ⟨rfl, none, 0, rfl⟩⟩ rfl (fun j u d hu => by simp at hu)) Rds.nil, .slice hu (by simp) (fun i hi => by omega), by simp [D.wts, D.wt, Rows.uptoBulk]⟩
      · obtain rfl : fuel = n := by omega
        have hone : ∀ i, i < len → ∃ y : List Value × List D, w.cells? base (a.add (i * P.cellsOf e)) (P.cellsOf e) = some y.1 ∧ Rds w B y.1 y.2 ∧ Has P e y.2 ∧ D.wts y.2 ≤ Rows.uptoBulk ((elems.map (·.1)).getD i .nil) := by
          intro i hi
          have h1 := hel i hi
          obtain ⟨cs', hcs', h2⟩ := Option.bind_eq_some_iff.1 (h1.trans (List.getElem?_eq_getElem (by omega)))
          obtain ⟨ds, g1, g2, g3⟩ := ih e cs' _ he h2 (fun p hp => hB p (List.mem_append_right _ (List.mem_flatMap.2 ⟨_, List.mem_append_left _ (List.getElem_mem _), hp⟩)))
          refine ⟨(cs', ds), hcs', g1, g2, ?_⟩
          have : (elems.map (·.1)).getD i .nil = (elems[i]'(by omega)).1 := by simp [List.getD, List.getElem?_eq_getElem (show i < elems.length by omega)]
          rw [this]; exact g3
        obtain ⟨F, hF⟩ := Go.Deep.choose_lt (α := List Value × List D) hone
        have hkv : ∀ i, i < len → (F i).1.length = P.cellsOf e := fun i hi => (World.cells?_some (hF i hi).1).2.1
        have hkd : ∀ i, i < len → (F i).2.length = P.cellsOf e := fun i hi => by rw [(hF i hi).2.1.1]; exact hkv i hi
        -- total functions with constant lengths
        let V : Nat → List Value := fun i => if i < len then (F i).1 else List.replicate (P.cellsOf e) undef
        let E : Nat → List D := fun i => if i < len then (F i).2 else List.replicate (P.cellsOf e) (.bool false)
        have hV : ∀ i, (V i).length = P.cellsOf e := fun i => by dsimp only [V]; split; exact hkv i ‹_›; simp
        have hE : ∀ i, (E i).length = P.cellsOf e := fun i => by dsimp only [E]; split; exact hkd i ‹_›; simp
        have hRd : ∀ l : List Nat, (∀ i ∈ l, i < len) → Rds w B (l.flatMap V) (l.flatMap E) := by
          intro l
          induction l with
          | nil => intro _; exact Rds.nil
          | cons i l ihl =>
            intro hm
            simp only [List.flatMap_cons]
            refine Rds.append ?_ (ihl fun j hj => hm j (List.mem_cons_of_mem _ hj))
            have hi := hm i (List.mem_cons_self ..)
            simp only [V, E, if_pos hi]
            exact (hF i hi).2.1
        have hlenV := flat_len V (P.cellsOf e) hV (List.range len)
        have hlenE := flat_len E (P.cellsOf e) hE (List.range len)
        rw [List.length_range] at hlenV hlenE
        have hrd := hRd (List.range len) (fun i hi => List.mem_range.1 hi)
        refine ⟨[.list (P.cellsOf e) len ((List.range len).flatMap E)], Rds.cons (Rd.mk (xs := (List.range len).flatMap V) ⟨hlenV, by omega, ?_⟩ hrd) Rds.nil, .slice hu hlenE (fun i hi => ?_), ?_⟩
        · rcases Nat.eq_zero_or_pos len with h0 | h0
          · exact .inl ⟨h0, some a, cap, by rw [h0]⟩
          · have hc0 : ∃ u0, w.cell? (a.add 0) = some u0 := by
              have := World.cells?_some (hF 0 h0).1
              have h3 := this.2.2 0 hk
              rw [List.getElem?_eq_getElem (by rw [hkv 0 h0]; exact hk), Nat.zero_mul, Go.Deep.add_add] at h3
              exact ⟨_, h3⟩
            have hsp : a = ⟨a.block, a.off, none⟩ := by
              obtain ⟨u0, h00⟩ := hc0
              have e0 : a.add 0 = a := by simp [Addr.add]
              rw [e0] at h00
              unfold World.cell? at h00
              split at h00
              · split at h00
                · cases h00
                · rename_i hn; cases a; simp at hn; subst hn; rfl
              · cases h00
            refine .inr ⟨a.block, a.off, cap, by rw [← hsp], ?_, hl, fun j u hj => ?_⟩
            · refine hB (.cell a.block (a.off + 0)) (List.mem_append_left _ ?_)
              refine List.mem_map.2 ⟨0, ?_, rfl⟩
              rw [List.mem_range]
              exact Nat.mul_pos (by omega) hk
            · have hjl : j < len * P.cellsOf e := by
                have := (List.getElem?_eq_some_iff.1 hj).1
                omega
              have hd := Nat.div_add_mod j (P.cellsOf e)
              have hi : j / P.cellsOf e < len := (Nat.div_lt_iff_lt_mul hk).2 hjl
              have hr := Nat.mod_lt j hk
              have hidx : j / P.cellsOf e * P.cellsOf e + j % P.cellsOf e = j := by rw [Nat.mul_comm]; exact hd
              have hg := flat_get V (P.cellsOf e) hV (List.range len) (j / P.cellsOf e) (j % P.cellsOf e) (by simpa using hi) hr
              rw [hidx, hj] at hg
              simp only [List.getElem_range, V, if_pos hi] at hg
              have := (World.cells?_some (hF _ hi).1).2.2 _ hr
              rw [Go.Deep.add_add, hidx, ← hg] at this
              exact cells_of_add a w j u this hc0
        · rw [flat_take E (P.cellsOf e) hE (List.range len) i (by simpa using hi)]
          simp only [List.getElem_range, E, if_pos hi]
          exact (hF i hi).2.2.1
        · simp only [D.wts, D.wt, Rows.uptoBulk]
          have h1 := wts_flat_mem E (fun i => (elems.map (·.1)).getD i .nil) (List.range len) (fun i hi => by
            have hi' := List.mem_range.1 hi
            simp only [E, if_pos hi']
            exact (hF i hi').2.2.2)
          have h2 : (List.range len).map (fun i => (elems.map (·.1)).getD i .nil) = elems.map (·.1) := by
            have := Go.Deep.map_by_index (elems.map (·.1)) .nil id
            rw [List.map_id, List.length_map, hlen] at this
            exact this.symm
          rw [h2] at h1
          omega
    · rename_i fs hu
      simp only [Bool.and_eq_true] at hp
      obtain ⟨hp1, hp2⟩ := hp
      obtain ⟨xs, n, hfn, rfl, hcl, hxl, hf⟩ := DataW.trod_struct hu h
      obtain rfl : fuel = n := by omega
      obtain ⟨ds, h1, h2, h3⟩ := struct_aux (P := P) (w := w) (B := B) hcl fs.toList (xs.map (·.1)) 0 hp2 (Nat.zero_le _) (by simpa using hxl) (fun i f y hfi hy => by
        have hfi' : fs[i]? = some f := by simpa using hfi
        have hx : xs[i]? = some (xs[i]'(by have := (Array.getElem?_eq_some_iff.1 hfi').1; omega)) := List.getElem?_eq_getElem _
        have hq := hf i f hfi'
        rw [hx] at hq
        have hmem : f.type ∈ ok := by
          have := List.all_eq_true.1 hp1 f (List.mem_of_getElem? hfi)
          simpa using this
        obtain ⟨ds, g1, g2, g3⟩ := ih f.type _ _ hmem hq (fun p hp => hB p (List.mem_flatMap.2 ⟨_, List.getElem_mem _, hp⟩))
        refine ⟨ds, g1, g2, ?_⟩
        rw [List.getElem?_map, hx] at hy
        simp at hy
        rw [← hy]; exact g3)
      refine ⟨ds, by simpa using h1, .struct hu ?_ (fun i f hfi => ?_), ?_⟩
      · have := h1.1; rw [List.drop_zero] at this; omega
      · have := (h2 i f (by simpa using hfi)).2
        simpa using this
      · simp only [Rows.uptoBulk]; omega
    · cases hp
end
end Go.Proofs.YtnneooidkbhbeaaGreatDoor
/- The structs of package api as Lean values: their flat cells, what a reading of them gives. Written by gen_api.py. -/
namespace Go.Proofs.YtnneooidkbhbeaaGreatDoor
open Go.RowKit Go.ChangeShapes Go.WideShapes

def sigOf (P : Program) (t : TypeId) : Option (List (TypeId × Nat × Nat)) :=
  match P.underlying t with
  | some (.struct fs) => if lays P fs.toList 0 (P.cellsOf t) then some (fs.toList.map fun f => (f.type, f.offset, P.cellsOf f.type)) else none
  | _ => none
def intOfT (P : Program) (t : TypeId) : Option IntKind := match P.underlying t with | some (.int k) => some k | _ => none
def boolOfT (P : Program) (t : TypeId) : Bool := match P.underlying t with | some .bool => true | _ => false
def strOfT (P : Program) (t : TypeId) : Bool := match P.underlying t with | some .string => true | _ => false
def elemOfT (P : Program) (t : TypeId) : Option TypeId := match P.underlying t with | some (.slice e) => some e | _ => none

theorem chunks (P : Program) (ds : List D) (n : Nat) (hn : ds.length = n) : ∀ (fl : List Field) (o : Nat), lays P fl o n = true → ds.drop o = (fl.map fun f => (f.type, f.offset, P.cellsOf f.type)).flatMap fun x => (ds.drop x.2.1).take x.2.2
  | [], o, h => by
    simp only [lays, beq_iff_eq] at h
    subst h
    rw [← hn, List.drop_length]; rfl
  | f :: r, o, h => by
    simp only [lays, Bool.and_eq_true, beq_iff_eq] at h
    obtain ⟨rfl, h⟩ := h
    have := chunks P ds n hn r _ h
    simp only [List.map_cons, List.flatMap_cons]
    rw [← this, ← List.drop_drop, List.take_append_drop]

theorem Has.parts {P : Program} {t : TypeId} {ds : List D} {L : List (TypeId × Nat × Nat)} (h : Has P t ds) (hs : sigOf P t = some L) :
    (ds = L.flatMap fun x => (ds.drop x.2.1).take x.2.2) ∧ ∀ x ∈ L, Has P x.1 ((ds.drop x.2.1).take x.2.2) := by
  unfold sigOf at hs
  cases h with
  | int h => rw [h] at hs; cases hs
  | bool h => rw [h] at hs; cases hs
  | str h => rw [h] at hs; cases hs
  | slice h => rw [h] at hs; cases hs
  | struct h hl he =>
    rw [h] at hs
    simp only at hs
    split at hs
    · rename_i hlay
      injection hs with hs
      subst hs
      refine ⟨by have := chunks P ds _ hl _ 0 hlay; rwa [List.drop_zero] at this, fun x hx => ?_⟩
      obtain ⟨f, hf, rfl⟩ := List.mem_map.1 hx
      obtain ⟨i, hi⟩ := List.mem_iff_getElem?.1 hf
      exact he i f (by simpa using hi)
    · cases hs
theorem Has.int_inv {P : Program} {t : TypeId} {ds : List D} {k : IntKind} (h : Has P t ds) (hs : intOfT P t = some k) : ∃ z, ds = [.int k z] := by
  unfold intOfT at hs
  cases h with
  | int h hw => rw [h] at hs; injection hs with hs; subst hs; exact ⟨_, rfl⟩
  | bool h => rw [h] at hs; cases hs
  | str h => rw [h] at hs; cases hs
  | slice h => rw [h] at hs; cases hs
  | struct h => rw [h] at hs; cases hs
theorem Has.bool_inv {P : Program} {t : TypeId} {ds : List D} (h : Has P t ds) (hs : boolOfT P t = true) : ∃ z, ds = [.bool z] := by
  unfold boolOfT at hs
  cases h with
  | bool h => exact ⟨_, rfl⟩
  | int h hw => rw [h] at hs; cases hs
  | str h => rw [h] at hs; cases hs
  | slice h => rw [h] at hs; cases hs
  | struct h => rw [h] at hs; cases hs
theorem Has.str_inv {P : Program} {t : TypeId} {ds : List D} (h : Has P t ds) (hs : strOfT P t = true) : ∃ z, ds = [.str z] := by
  unfold strOfT at hs
  cases h with
  | str h => exact ⟨_, rfl⟩
  | int h hw => rw [h] at hs; cases hs
  | bool h => rw [h] at hs; cases hs
  | slice h => rw [h] at hs; cases hs
  | struct h => rw [h] at hs; cases hs
theorem Has.slice_inv {P : Program} {t e : TypeId} {ds : List D} (h : Has P t ds) (hs : elemOfT P t = some e) :
    ∃ n ds', ds = [.list (P.cellsOf e) n ds'] ∧ ds'.length = n * P.cellsOf e ∧ ∀ i, i < n → Has P e ((ds'.drop (i * P.cellsOf e)).take (P.cellsOf e)) := by
  unfold elemOfT at hs
  cases h with
  | slice h hl he => rw [h] at hs; injection hs with hs; subst hs; exact ⟨_, _, rfl, hl, he⟩
  | int h hw => rw [h] at hs; cases hs
  | bool h => rw [h] at hs; cases hs
  | str h => rw [h] at hs; cases hs
  | struct h => rw [h] at hs; cases hs
theorem wts_take_drop (ds : List D) (i k : Nat) : D.wts ((ds.drop i).take k) ≤ D.wts ds := by
  have h1 := wts_append (ds.take i) (ds.drop i)
  have h2 := wts_append ((ds.drop i).take k) ((ds.drop i).drop k)
  rw [List.take_append_drop] at h1 h2
  omega
theorem list_build {α : Type} {P : Program} {e : TypeId} (f : α → List D) (k : Nat) : ∀ (n : Nat) (ds : List D), ds.length = n * k → (∀ i, i < n → Has P e ((ds.drop (i * k)).take k)) →
    (∀ c, D.wts c ≤ D.wts ds → Has P e c → ∃ x, c = f x) → ∃ l : List α, n = l.length ∧ ds = l.flatMap f
  | 0, ds, hl, _, _ => ⟨[], rfl, by have : ds = [] := List.eq_nil_of_length_eq_zero (by omega); rw [this]; rfl⟩
  | n + 1, ds, hl, he, hX => by
    obtain ⟨x, hx⟩ := hX _ (wts_take_drop ds 0 k) (by have := he 0 (by omega); simpa using this)
    have hl' : ds.length = n * k + k := by rw [hl, Nat.succ_mul]
    obtain ⟨l, hln, hd⟩ := list_build (P := P) (e := e) f k n (ds.drop k) (by rw [List.length_drop]; omega) (fun i hi => by
      have := he (i + 1) (by omega)
      rw [List.drop_drop]
      rwa [Nat.succ_mul, Nat.add_comm] at this) (fun c hc hh => hX c (by
        have := wts_append (ds.take k) (ds.drop k)
        rw [List.take_append_drop] at this; omega) hh)
    refine ⟨x :: l, by simp [hln], ?_⟩
    rw [List.flatMap_cons, ← hx, ← hd, List.drop_zero, List.take_append_drop]
theorem Has.list_of {α : Type} {P : Program} {t e : TypeId} {ds : List D} {k : Nat} {f : α → List D} (h : Has P t ds) (hs : elemOfT P t = some e) (hk : P.cellsOf e = k) (_hf : ∀ x, (f x).length = k)
    (hX : ∀ c, D.wts c < D.wts ds → Has P e c → ∃ x, c = f x) : ∃ l : List α, ds = [.list k l.length (l.flatMap f)] := by
  obtain ⟨n, ds', rfl, hl, he⟩ := h.slice_inv hs
  rw [hk] at hl he
  obtain ⟨l, rfl, rfl⟩ := list_build f k n ds' hl he (fun c hc hh => hX c (by simp only [D.wts, D.wt]; omega) hh)
  exact ⟨l, by rw [hk]⟩
theorem ints_flat (k : IntKind) : ∀ l : List Int, (l.flatMap fun z => [D.int k z]) = l.map (D.int k)
  | [] => rfl
  | z :: l => by simp only [List.flatMap_cons, ints_flat k l, List.map_cons]; rfl
theorem Has.ints_inv {P : Program} {t e : TypeId} {ds : List D} {k : IntKind} (h : Has P t ds) (hs : elemOfT P t = some e) (hi : intOfT P e = some k) (hk : P.cellsOf e = 1) : ∃ l : List Int, ds = [.list 1 l.length (l.map (D.int k))] := by
  obtain ⟨l, hl⟩ := h.list_of (f := fun z : Int => [D.int k z]) hs hk (fun _ => rfl) (fun c _ hh => hh.int_inv hi)
  exact ⟨l, by rw [hl, ints_flat]⟩

structure Mu where
  v : Int
  c : Int
def Mu.d (x : Mu) : List D := [.int .i64 x.v, .int .u8 x.c]
theorem Mu.d_len (x : Mu) : x.d.length = 2 := rfl
theorem Mu.cells {w : World} {B : Nat} {us : List Value} {x : Mu} (h : Rds w B us x.d) : us = [.int .i64 x.v, .int .u8 x.c] ∧ (Lit.int .i64 x.v).wf = true ∧ (Lit.int .u8 x.c).wf = true := by
  unfold Mu.d at h
  obtain ⟨v0, u0, rfl, h0, t0⟩ := h.cons_inv
  obtain ⟨rfl, w0⟩ := h0.int_inv
  obtain ⟨v1, u1, rfl, h1, t1⟩ := t0.cons_inv
  obtain ⟨rfl, w1⟩ := h1.int_inv
  obtain rfl := t1.nil_inv
  exact ⟨rfl, w0, w1⟩
inductive Ty where
  | mk (kind n v c : Int) (l : List Ty)
namespace Ty
def kind : Ty → Int | .mk k _ _ _ _ => k
def n : Ty → Int | .mk _ n _ _ _ => n
def v : Ty → Int | .mk _ _ v _ _ => v
def c : Ty → Int | .mk _ _ _ c _ => c
def l : Ty → List Ty | .mk _ _ _ _ l => l
mutual
def d : Ty → List D
  | .mk kind n v c l => [.int .u8 kind, .int .i64 n, .int .i64 v, .int .u8 c, .list 5 l.length (dl l)]
def dl : List Ty → List D
  | [] => []
  | t :: r => t.d ++ dl r
end
theorem dl_eq : ∀ l : List Ty, dl l = l.flatMap d
  | [] => by simp [dl]
  | t :: r => by simp [dl, dl_eq r]
theorem d_eq (x : Ty) : x.d = [.int .u8 x.kind, .int .i64 x.n, .int .i64 x.v, .int .u8 x.c, .list 5 x.l.length (x.l.flatMap Ty.d)] := by
  cases x; simp [d, kind, n, v, c, l, dl_eq]
theorem d_len (x : Ty) : x.d.length = 5 := by cases x; simp [d]
theorem cells {w : World} {B : Nat} {us : List Value} {x : Ty} (h : Rds w B us x.d) : ∃ v4 : Value, us = [.int .u8 x.kind, .int .i64 x.n, .int .i64 x.v, .int .u8 x.c, v4] ∧ Rd w B v4 (.list 5 x.l.length (x.l.flatMap Ty.d)) ∧
    (Lit.int .u8 x.kind).wf = true ∧ (Lit.int .i64 x.n).wf = true ∧ (Lit.int .i64 x.v).wf = true ∧ (Lit.int .u8 x.c).wf = true := by
  rw [d_eq] at h
  obtain ⟨v0, u0, rfl, h0, t0⟩ := h.cons_inv
  obtain ⟨rfl, w0⟩ := h0.int_inv
  obtain ⟨v1, u1, rfl, h1, t1⟩ := t0.cons_inv
  obtain ⟨rfl, w1⟩ := h1.int_inv
  obtain ⟨v2, u2, rfl, h2, t2⟩ := t1.cons_inv
  obtain ⟨rfl, w2⟩ := h2.int_inv
  obtain ⟨v3, u3, rfl, h3, t3⟩ := t2.cons_inv
  obtain ⟨rfl, w3⟩ := h3.int_inv
  obtain ⟨v4, u4, rfl, h4, t4⟩ := t3.cons_inv
  obtain rfl := t4.nil_inv
  exact ⟨v4, rfl, h4, w0, w1, w2, w3⟩
/-- how many nodes -/
def size : Ty → Nat
  | .mk _ _ _ _ l => 1 + sizes l
where sizes : List Ty → Nat
  | [] => 0
  | t :: r => t.size + sizes r
theorem size_mem {t : Ty} {l : List Ty} (h : t ∈ l) : t.size ≤ size.sizes l := by
  induction l with
  | nil => cases h
  | cons a l ih =>
    simp only [size.sizes]
    rcases List.mem_cons.1 h with rfl | h
    · omega
    · have := ih h; omega
end Ty
structure Data where
  name : ByteArray
  params : Int
  cons : List Int
def Data.d (x : Data) : List D := [.str x.name, .int .i64 x.params, .list 1 (x.cons).length ((x.cons).map (D.int .i64))]
theorem Data.d_len (x : Data) : x.d.length = 3 := rfl
theorem Data.cells {w : World} {B : Nat} {us : List Value} {x : Data} (h : Rds w B us x.d) : ∃ v2 : Value, us = [.string x.name, .int .i64 x.params, v2] ∧ (x.name).size ≤ maxLen ∧ (Lit.int .i64 x.params).wf = true ∧ Rd w B v2 (.list 1 (x.cons).length ((x.cons).map (D.int .i64))) := by
  unfold Data.d at h
  obtain ⟨v0, u0, rfl, h0, t0⟩ := h.cons_inv
  obtain ⟨rfl, w0⟩ := h0.str_inv
  obtain ⟨v1, u1, rfl, h1, t1⟩ := t0.cons_inv
  obtain ⟨rfl, w1⟩ := h1.int_inv
  obtain ⟨v2, u2, rfl, h2, t2⟩ := t1.cons_inv
  obtain rfl := t2.nil_inv
  exact ⟨v2, rfl, w0, w1, h2⟩
structure Con where
  name : ByteArray
  data : Int
  fields : List Ty
  mults : List Int
def Con.d (x : Con) : List D := [.str x.name, .int .i64 x.data, .list 5 (x.fields).length ((x.fields).flatMap Ty.d), .list 1 (x.mults).length ((x.mults).map (D.int .u8))]
theorem Con.d_len (x : Con) : x.d.length = 4 := rfl
theorem Con.cells {w : World} {B : Nat} {us : List Value} {x : Con} (h : Rds w B us x.d) : ∃ v2 v3 : Value, us = [.string x.name, .int .i64 x.data, v2, v3] ∧ (x.name).size ≤ maxLen ∧ (Lit.int .i64 x.data).wf = true ∧ Rd w B v2 (.list 5 (x.fields).length ((x.fields).flatMap Ty.d)) ∧ Rd w B v3 (.list 1 (x.mults).length ((x.mults).map (D.int .u8))) := by
  unfold Con.d at h
  obtain ⟨v0, u0, rfl, h0, t0⟩ := h.cons_inv
  obtain ⟨rfl, w0⟩ := h0.str_inv
  obtain ⟨v1, u1, rfl, h1, t1⟩ := t0.cons_inv
  obtain ⟨rfl, w1⟩ := h1.int_inv
  obtain ⟨v2, u2, rfl, h2, t2⟩ := t1.cons_inv
  obtain ⟨v3, u3, rfl, h3, t3⟩ := t2.cons_inv
  obtain rfl := t3.nil_inv
  exact ⟨v2, v3, rfl, w0, w1, h2, h3⟩
structure Sig where
  datas : List Data
  cons : List Con
def Sig.d (x : Sig) : List D := [.list 3 (x.datas).length ((x.datas).flatMap Data.d), .list 4 (x.cons).length ((x.cons).flatMap Con.d)]
theorem Sig.d_len (x : Sig) : x.d.length = 2 := rfl
theorem Sig.cells {w : World} {B : Nat} {us : List Value} {x : Sig} (h : Rds w B us x.d) : ∃ v0 v1 : Value, us = [v0, v1] ∧ Rd w B v0 (.list 3 (x.datas).length ((x.datas).flatMap Data.d)) ∧ Rd w B v1 (.list 4 (x.cons).length ((x.cons).flatMap Con.d)) := by
  unfold Sig.d at h
  obtain ⟨v0, u0, rfl, h0, t0⟩ := h.cons_inv
  obtain ⟨v1, u1, rfl, h1, t1⟩ := t0.cons_inv
  obtain rfl := t1.nil_inv
  exact ⟨v0, v1, rfl, h0, h1⟩
end Go.Proofs.YtnneooidkbhbeaaGreatDoor
/- Contracts: slices.IndexFunc, slices.ContainsFunc. Written by gen_idx.py. -/
namespace Go.Proofs.YtnneooidkbhbeaaGreatDoor
open Go.RowKit

theorem ret_i {a b : Int} (h : a = b) : Ending.returned (.int .i64 a) = .returned (.int .i64 b) := by rw [h]
theorem ret_b {a b : Bool} (h : a = b) : Ending.returned (.bool a) = .returned (.bool b) := by rw [h]
def idxZ {α : Type} (p : α → Bool) : List α → Int → Int
  | [], _ => -1
  | x :: r, k => if p x then k else idxZ p r (k + 1)
theorem idxZ_drop {α : Type} (p : α → Bool) (l : List α) (k : Nat) (h : k < l.length) : idxZ p (l.drop k) k = if p l[k] then (k : Int) else idxZ p (l.drop (k + 1)) ((k + 1 : Nat) : Int) := by
  rw [List.drop_eq_getElem_cons h]
  simp [idxZ]
theorem idxZ_end {α : Type} (p : α → Bool) (l : List α) (k : Nat) (h : l.length ≤ k) : idxZ p (l.drop k) k = -1 := by
  rw [List.drop_of_length_le h]; rfl
theorem idxZ_ge {α : Type} (p : α → Bool) : ∀ (l : List α) (k : Int), 0 ≤ k → (decide (0 ≤ idxZ p l k) = l.any p)
  | [], k, h => by simp [idxZ]
  | x :: r, k, h => by
    unfold idxZ
    by_cases hx : p x = true
    · simp [hx, h]
    · simp only [hx, Bool.false_eq_true, if_false, List.any_cons, Bool.false_or]
      exact idxZ_ge p r (k + 1) (by omega)
/-- a call of this function enters it -/
def Enters (P : Program) (g : FuncId) : Prop := ∀ (args : Array Value) (w : World), Sem.run P (callFunc g args) w = .ok (.enter g args) w
theorem enters {P : Program} {f : FuncId} {fn : Func} {c : Code} (hf : P.funcs[f]? = some fn) (hname : (fn.name == "runtime.NumGoroutine") = false) (hb : fn.body = some c) : Enters P f := by
  intro args w
  have h1 : fn.name ≠ "runtime.NumGoroutine" := by simpa using hname
  simp [callFunc, hf, h1, hb]

end Go.Proofs.YtnneooidkbhbeaaGreatDoor
/- A region that draws its order: quiet operations (that read, or call what only draws), in whatever order, between a few that may do anything, each of which comes up alone. Of no program. -/
namespace Go.Proofs.YtnneooidkbhbeaaGreatDoor
open Go

section
variable {P : Program} {ops : Array Oper} {md : Region.Mode} {C : World → Prop}

/-- whatever stands behind n waits for something from n on -/
def gateB (md : Region.Mode) (ops : Array Oper) (n : Nat) : Bool :=
  (List.range ops.size).all fun t => decide (t ≤ n) || (List.range t).any fun j => decide (n ≤ j) && Region.waitsFor md ops t j

theorem waits_not_ready {t j : Nat} {listed : Array Bool} (hw : Region.waitsFor md ops t j = true) (hj : listed.getD j false = false) : t ∉ Region.ready md ops listed := by
  intro hr
  obtain ⟨o, ho, e, he, hb, hon⟩ := Region.waitsFor_spec hw
  obtain ⟨_, o', ho', hall⟩ := mem_ready.1 hr
  obtain rfl : o' = o := Option.some.inj (ho'.symm.trans ho)
  have := hall e he hb
  rw [hon, hj] at this
  cases this

/-- while something ahead of n is not done, neither n nor what stands behind it comes up -/
theorem behind_waits {n : Nat} {listed : Array Bool} (hs : Region.sinkB md ops n = true) (hg : gateB md ops n = true) (hn : n < ops.size) (inv : HeadInv md ops n listed)
    {i : Nat} (hi : i < n) (hun : listed.getD i true = false) : ∀ t, n ≤ t → t ∉ Region.ready md ops listed := by
  have hnn : ∀ (d i : Nat), n - i = d → i < n → listed.getD i true = false → n ∉ Region.ready md ops listed := by
    intro d
    induction d using Nat.strongRecOn with
    | _ d ih =>
      intro i hd hi hun
      obtain ⟨j, hj, hj2⟩ := List.any_eq_true.1 (List.all_eq_true.1 hs i (List.mem_range.2 hi))
      simp only [Bool.and_eq_true, decide_eq_true_eq] at hj2
      have hjle : j ≤ n := by have := List.mem_range.1 hj; omega
      rcases Nat.lt_or_ge j n with hjn | hjn
      · refine ih (n - j) (by omega) j rfl hjn ?_
        cases hl : listed.getD j false with
        | false => exact getD_in (by rw [inv.size]; omega) hl
        | true =>
          obtain ⟨oj, hoj, e, he, hb, hon⟩ := Region.waitsFor_spec hj2.2
          have := inv.closed j oj hoj hl e he hb
          rw [hon, getD_both hun] at this
          cases this
      · obtain rfl : j = n := by omega
        exact waits_not_ready hj2.2 (getD_both hun)
  intro t ht
  rcases Nat.eq_or_lt_of_le ht with rfl | hlt
  · exact hnn _ i rfl hi hun
  · intro hr
    obtain ⟨_, ot, hot, _⟩ := mem_ready.1 hr
    have hts : t < ops.size := (Array.getElem?_eq_some_iff.1 hot).1
    have h1 := List.all_eq_true.1 hg t (List.mem_range.2 hts)
    simp only [Bool.or_eq_true, decide_eq_true_eq] at h1
    rcases h1 with h1 | h1
    · omega
    · obtain ⟨j, hj, hj2⟩ := List.any_eq_true.1 h1
      simp only [Bool.and_eq_true, decide_eq_true_eq] at hj2
      exact waits_not_ready hj2.2 (getD_both (inv.tail j hj2.1 (by have := List.mem_range.1 hj; omega))) hr

/-- whichever comes up ahead of n is quiet -/
def wpHeadQ (P : Program) (md : Region.Mode) (ops : Array Oper) (C : World → Prop) (n : Nat) (L : Array Bool → Act → Prop) : Nat → Array Bool → Act → Prop
  | 0, listed, a => L listed a
  | f + 1, listed, a => Region.ready md ops listed ≠ [] ∧ ∀ i ∈ Region.ready md ops listed, i < n ∧ qOp P ops C i (wpHeadQ P md ops C n L f (listed.setIfInBounds i true)) a
theorem wpAny_of_headQ {n g : Nat} {L : Array Bool → Act → Prop} {Q' : Exit → Act → World → Prop} (hL : ∀ listed a w, C w → L listed a → wpAny P md ops Q' g listed a w) :
    ∀ (f : Nat) (listed : Array Bool) (a : Act) (w : World), C w → wpHeadQ P md ops C n L f listed a → wpAny P md ops Q' (f + g) listed a w
  | 0, listed, a, w, hw, h => by rw [Nat.zero_add]; exact hL _ _ _ hw h
  | f + 1, listed, a, w, hw, h => by
    rw [show f + 1 + g = (f + g) + 1 by omega]
    exact ⟨fun h0 => absurd h0 h.1, fun i hi => wpOp_of_qOp hw (fun a' w' hw' h' => wpAny_of_headQ hL f _ a' w' hw' h') (h.2 i hi).2⟩

/-- a quiet operation ahead of n that may come up now may be taken first -/
theorem seg_first {n i : Nat} {oi : Oper} {v : Value} {L : Array Bool → Act → Prop} (hi : ops[i]? = some oi) (hsel : ∀ (j : Nat) (o : Oper) cs b, ops[j]? = some o → o.op ≠ .select cs b)
    (hs : Region.sinkB md ops n = true) (hg : gateB md ops n = true) (hn : n < ops.size) (hin : i < n) (hdone : ∀ listed a, L listed a → ∀ j ∈ Region.ready md ops listed, n ≤ j) :
    ∀ (f : Nat) (listed : Array Bool) (a : Act), HeadInv md ops n listed →
      (∀ j oj, ops[j]? = some oj → j ≠ i → listed.getD j true = false → (∀ e ∈ oj.after, Region.binds md e = true → e.on ≠ i) → oi.apart ops oj = true) →
      i ∈ Region.ready md ops listed → YieldsIn P ops C oi v a →
      wpHeadQ P md ops C n L f (listed.setIfInBounds i true) (a.put oi.dst v) → wpHeadQ P md ops C n L (f + 1) listed a := by
  intro f
  induction f with
  | zero =>
    intro listed a inv _ hr hy H
    have hun := (mem_ready.1 hr).1
    refine ⟨fun h => (by rw [h] at hr; cases hr), fun j hj => ?_⟩
    have hjn : j < n := Nat.lt_of_not_le fun h => behind_waits hs hg hn inv hin hun j h hj
    refine ⟨hjn, ?_⟩
    by_cases hji : j = i
    · subst hji; exact hy.qOp hi H
    · have := hdone _ _ H j (ready_mono hj hji); omega
  | succ f ih =>
    intro listed a inv hfree hr hy H
    have hun := (mem_ready.1 hr).1
    refine ⟨fun h => (by rw [h] at hr; cases hr), fun j hj => ?_⟩
    have hjn : j < n := Nat.lt_of_not_le fun h => behind_waits hs hg hn inv hin hun j h hj
    refine ⟨hjn, ?_⟩
    by_cases hji : j = i
    · subst hji; exact hy.qOp hi H
    · obtain ⟨hjun, oj, hoj, hall⟩ := mem_ready.1 hj
      have hnot : ∀ e ∈ oj.after, Region.binds md e = true → e.on ≠ i := fun e he hb heq => by
        have h1 := hall e he hb
        rw [heq, getD_both hun] at h1
        cases h1
      refine qOp_mono (fun a' h3 => ?_) (qOp_put hoj (hfree j oj hoj hji hjun hnot) (fun cs b => hsel i oi cs b hi) (fun cs b => hsel j oj cs b hoj) hy (H.2 j (ready_mono hj hji)).2)
      refine ih (listed.setIfInBounds j true) a' (inv.set hj hjn) (fun k ok hk hki hkun hno => hfree k ok hk hki ?_ hno) (ready_mono hr (Ne.symm hji)) h3.1 ?_
      · by_cases hjk : j = k
        · subst hjk; exact hjun
        · rw [getD_set_ne true hjk] at hkun; exact hkun
      · rw [Array.setIfInBounds_comm _ _ hji]
        exact h3.2

/-- the quiet operations of a piece, one behind the other: what is done behind them -/
def segHead (md : Region.Mode) (ops : Array Oper) : Nat → Nat → Array Bool → Option (Array Bool)
  | 0, _, listed => some listed
  | f + 1, k, listed => if (Region.ready md ops listed).contains k && Region.free md ops listed k then segHead md ops f (k + 1) (listed.setIfInBounds k true) else none

theorem seg_lex {n : Nat} {Lq : Act → Prop} {fin : Array Bool} (hsel : Region.noSelect ops = true) (hs : Region.sinkB md ops n = true) (hg : gateB md ops n = true) (hn : n < ops.size) (hfin : Region.ready md ops fin = [n]) :
    ∀ (l : List Oper) (k : Nat) (listed : Array Bool) (a : Act), (∀ j, j < l.length → l[j]? = ops[k + j]?) → k + l.length = n → HeadInv md ops n listed →
    segHead md ops l.length k listed = some fin → wpQuiet P ops C Lq l a → wpHeadQ P md ops C n (fun listed' a' => listed' = fin ∧ Lq a') l.length listed a
  | [], k, listed, a, _, _, _, hB, h => by
    simp only [List.length_nil, segHead, Option.some.injEq] at hB
    exact ⟨hB, h⟩
  | o :: l, k, listed, a, hl, hk, inv, hB, h => by
    have h0 : ops[k]? = some o := by simpa using (hl 0 (by simp)).symm
    simp only [List.length_cons, segHead] at hB
    split at hB
    · rename_i hc
      simp only [Bool.and_eq_true] at hc
      obtain ⟨hr, hf⟩ := hc
      have hkn : k < n := by simp only [List.length_cons] at hk; omega
      have hr' : k ∈ Region.ready md ops listed := by simpa using hr
      have hst : qOp P ops C k (wpQuiet P ops C Lq l) a := by unfold qOp; simp only [h0]; exact h
      obtain ⟨v, hy, hK⟩ := yieldsIn_of_qOp h0 hst
      exact seg_first h0 (Region.noSelect_spec hsel) hs hg hn hkn (fun listed' a' hL j hj => by rw [hL.1, hfin] at hj; simp at hj; omega) l.length listed a inv (Region.free_spec h0 hf) hr' hy
        (seg_lex hsel hs hg hn hfin l (k + 1) _ _ (fun j hj => by have := hl (j + 1) (by simp; omega); simpa [Nat.add_assoc, Nat.add_comm 1 j] using this) (by simp only [List.length_cons] at hk; omega) (inv.set hr' hkn) hB hK)
    · cases hB

/-- an exit handed on -/
def SegQ (N : Act → World → Prop) (Q : Exit → Act → World → Prop) : Exit → Act → World → Prop
  | .normal, a, w => N a w
  | e, a, w => Q e a w

/-- the worlds that draws make -/
def Drawn (w : World) : World → Prop := fun w' => ∃ n, w' = w.drewN n
/-- THE WALK: pieces of quiet operations, so many each, and behind each one operation that may do anything -/
def wpSegs (P : Program) (ops : Array Oper) (Q : Exit → Act → World → Prop) : List Nat → List Oper → Act → World → Prop
  | [], l, a, w => wpQuiet P ops (fun w' => ∃ n, w' = w.drewN n) (fun a' => ∀ w', (∃ n, w' = w.drewN n) → Q .normal a' w') l a
  | n :: ns, l, a, w => wpQuiet P ops (fun w' => ∃ n, w' = w.drewN n) (fun a' => ∀ w', (∃ n, w' = w.drewN n) → match l.drop n with | [] => False | o :: r => wpList P ops (SegQ (wpSegs P ops Q ns r) Q) [o] a' w') (l.take n) a

def segsB (md : Region.Mode) (ops : Array Oper) : List Nat → Nat → Array Bool → Bool
  | [], k, listed => Region.lexFrom md ops (ops.size - k) k listed
  | n :: ns, k, listed => match segHead md ops n k listed with
    | none => false
    | some fin => Region.sinkB md ops (k + n) && gateB md ops (k + n) && decide (k + n < ops.size) && decide (Region.ready md ops fin = [k + n]) && segsB md ops ns (k + n + 1) (fin.setIfInBounds (k + n) true)

theorem segHead_inv {n : Nat} : ∀ (f k : Nat) (listed fin : Array Bool), k + f ≤ n → HeadInv md ops n listed → segHead md ops f k listed = some fin → HeadInv md ops n fin
  | 0, k, listed, fin, _, inv, h => by simp only [segHead, Option.some.injEq] at h; exact h ▸ inv
  | f + 1, k, listed, fin, hk, inv, h => by
    simp only [segHead] at h
    split at h
    · rename_i hc
      simp only [Bool.and_eq_true] at hc
      exact segHead_inv f (k + 1) _ fin (by omega) (inv.set (by simpa using hc.1) (by omega)) h
    · cases h

theorem wp_to_segQ {o : Oper} {a : Act} {w : World} {N : Act → World → Prop} {Q : Exit → Act → World → Prop} {K : Act → World → Prop} (hK : ∀ a w, N a w → K a w) (h : o.wp P a w (fun a w => SegQ N Q .normal a w) (SegQ N Q)) : o.wp P a w K Q := by
  unfold Oper.wp at *
  generalize (execOp a.eval o).run P w = r at *
  cases r with
  | ok n w' =>
    cases n <;> simp only [Oper.upon] at h ⊢ <;> try exact h
    case value v => exact hK _ _ h
    case skip => exact hK _ _ h
    case defer d => exact hK _ _ h
    case enter f args =>
      refine Calls.mono h fun e w'' he => ?_
      cases e with
      | returned u => exact hK _ _ he
      | panicked c => exact he
      | outgrown => exact he
    case row row args => exact Rows.mono h fun u w'' he => hK _ _ he
  | halt x w' =>
    cases x <;> simp only [Oper.upon] at h ⊢ <;> exact h

theorem wpAny_segs {Q : Exit → Act → World → Prop} (hsel : Region.noSelect ops = true) : ∀ (ns : List Nat) (k : Nat) (l : List Oper) (listed : Array Bool) (a : Act) (w : World), (∀ j, l[j]? = ops[k + j]?) → k + l.length = ops.size →
    HeadInv md ops k listed → segsB md ops ns k listed = true → wpSegs P ops Q ns l a w → wpAny P md ops Q l.length listed a w
  | [], k, l, listed, a, w, hl, hk, inv, hB, h => by
    simp only [segsB] at hB
    rw [show ops.size - k = l.length by omega] at hB
    exact wpAny_of_quiet (C := fun w' => ∃ n, w' = w.drewN n) (Q := fun a' => ∀ w', (∃ n, w' = w.drewN n) → Q .normal a' w') (fun _ w' hw' h => h w' hw') _ _ _ _ ⟨0, rfl⟩ (wpAnyQ_lex hsel l k listed a hl hB h)
  | n :: ns, k, l, listed, a, w, hl, hk, inv, hB, h => by
    simp only [segsB] at hB
    split at hB
    · cases hB
    · rename_i fin hfin
      simp only [Bool.and_eq_true, decide_eq_true_eq] at hB
      obtain ⟨⟨⟨⟨hs, hg⟩, hlt⟩, hrd⟩, hB⟩ := hB
      have hnl : n < l.length := by omega
      have htl : (l.take n).length = n := by rw [List.length_take]; omega
      obtain ⟨o, r, hor⟩ : ∃ o r, l.drop n = o :: r := by
        cases hd : l.drop n with
        | nil => have := congrArg List.length hd; rw [List.length_drop] at this; simp at this; omega
        | cons o r => exact ⟨o, r, rfl⟩
      have hlr : r.length = l.length - n - 1 := by have := congrArg List.length hor; rw [List.length_drop] at this; simp at this; omega
      have hgo : ∀ j, (o :: r)[j]? = ops[k + n + j]? := fun j => by rw [← hor, List.getElem?_drop, hl, Nat.add_assoc]
      have ho : ops[k + n]? = some o := by simpa using (hgo 0).symm
      have inv' : HeadInv md ops (k + n) listed := ⟨inv.size, inv.closed, fun t ht hts => inv.tail t (by omega) hts⟩
      simp only [wpSegs, hor] at h
      have H := seg_lex (C := fun w' => ∃ n, w' = w.drewN n) (Lq := fun a' => ∀ w', (∃ n, w' = w.drewN n) → wpList P ops (SegQ (wpSegs P ops Q ns r) Q) [o] a' w') hsel hs hg hlt hrd (l.take n) k listed a (fun j hj => by
        have hj' : j < n := by omega
        rw [List.getElem?_take_of_lt hj', hl]) (by rw [htl]) inv' (by rw [htl]; exact hfin) h
      rw [htl] at H
      have hlen : l.length = n + (r.length + 1) := by omega
      rw [hlen]
      refine wpAny_of_headQ (C := fun w' => ∃ n, w' = w.drewN n) (g := r.length + 1) (fun listed' a' w' hw' hL => ?_) n listed a w ⟨0, rfl⟩ H
      obtain ⟨rfl, hL⟩ := hL
      replace hL := hL w' hw'
      refine ⟨fun h0 => (by rw [h0] at hrd; cases hrd), fun i hi => ?_⟩
      rw [hrd] at hi
      obtain rfl : i = k + n := by simpa using hi
      have i2 := segHead_inv n k listed listed' (Nat.le_refl _) inv' hfin
      have i3 : HeadInv md ops (k + n + 1) listed' := ⟨i2.size, i2.closed, fun t ht hts => i2.tail t (by omega) hts⟩
      have invf : HeadInv md ops (k + n + 1) (listed'.setIfInBounds (k + n) true) := i3.set (by rw [hrd]; simp) (by omega)
      have hnext : ∀ a2 w2, wpSegs P ops Q ns r a2 w2 → wpAny P md ops Q r.length (listed'.setIfInBounds (k + n) true) a2 w2 := fun a2 w2 h2 =>
        wpAny_segs hsel ns (k + n + 1) r _ a2 w2 (fun j => by have := hgo (j + 1); simpa [Nat.add_assoc, Nat.add_comm 1 j] using this) (by omega) invf hB h2
      unfold wpOp
      simp only [ho]
      simp only [wpList] at hL
      split at hL
      · rename_i hw
        rw [if_pos hw]
        rcases hL with hL | hL
        · exact .inl (wp_to_segQ hnext hL)
        · exact .inr ⟨hL.1, hL.2⟩
      · rename_i hw
        rw [if_neg hw]
        exact hnext _ _ hL

theorem wp_region_segs {id : Nat} {Q : Exit → Act → World → Prop} {a : Act} {w : World} {l : List Oper} (ns : List Nat) (hm : P.follows .mixedOrders = true)
    (hB : (Region.noSelect l.toArray && segsB .any l.toArray ns 0 (Array.replicate l.toArray.size false)) = true) (h : wpSegs P l.toArray Q ns l a w.drew) : (Code.region id l.toArray true).wp P Q a w := by
  simp only [Bool.and_eq_true] at hB
  refine wp_region_any hm ?_
  have inv0 : HeadInv .any l.toArray 0 (Array.replicate l.toArray.size false) :=
    ⟨by simp, fun j oj _ hl => (by rw [getD_replicate_false] at hl; cases hl), fun t _ ht => getD_in (by simpa using ht) (getD_replicate_false _ _)⟩
  have := wpAny_segs (Q := Q) hB.1 ns 0 l _ a w.drew (fun j => by simp) (by simp) inv0 hB.2 h
  simpa using this
end
end Go.Proofs.YtnneooidkbhbeaaGreatDoor
/- The syntax of package api (Pat, Expr, Arm, Ty, Field, ConDecl, Decl) as Lean values: flat cells, what a reading of them gives. Written by gen_exp.py. -/
namespace Go.Proofs.YtnneooidkbhbeaaGreatDoor
open Go.RowKit Go.ChangeShapes Go.WideShapes

theorem spos {ds : List D} (h : Has Tryz.prog 24 ds) : ∃ a b c : Int, ds = [.int .i64 a, .int .i64 b, .int .i64 c] := by
  obtain ⟨he, hp⟩ := h.parts (L := [(3, 0, 1), (3, 1, 1), (3, 2, 1)]) (by kernel_rfl)
  obtain ⟨z0, e0⟩ := (hp _ (List.mem_of_getElem? (show _ = some (3, 0, 1) from (rfl : [(3, 0, 1), (3, 1, 1), (3, 2, 1)][0]? = _)))).int_inv (k := .i64) (by kernel_rfl)
  obtain ⟨z1, e1⟩ := (hp _ (List.mem_of_getElem? (show _ = some (3, 1, 1) from (rfl : [(3, 0, 1), (3, 1, 1), (3, 2, 1)][1]? = _)))).int_inv (k := .i64) (by kernel_rfl)
  obtain ⟨z2, e2⟩ := (hp _ (List.mem_of_getElem? (show _ = some (3, 2, 1) from (rfl : [(3, 0, 1), (3, 1, 1), (3, 2, 1)][2]? = _)))).int_inv (k := .i64) (by kernel_rfl)
  refine ⟨z0, z1, z2, he.trans ?_⟩
  simp only [List.flatMap_cons, List.flatMap_nil, e0, e1, e2]
  rfl
inductive SPat where
  | mk (kind : Int) (s : ByteArray) (n : Int) (at_ : Int) (line : Int) (col : Int) (l : List SPat)
namespace SPat
def kind : SPat → Int | .mk kind _ _ _ _ _ _ => kind
def s : SPat → ByteArray | .mk _ s _ _ _ _ _ => s
def n : SPat → Int | .mk _ _ n _ _ _ _ => n
def at_ : SPat → Int | .mk _ _ _ at_ _ _ _ => at_
def line : SPat → Int | .mk _ _ _ _ line _ _ => line
def col : SPat → Int | .mk _ _ _ _ _ col _ => col
def l : SPat → List SPat | .mk _ _ _ _ _ _ l => l
end SPat
namespace SPat
mutual
def d : SPat → List D
  | .mk kind s n at_ line col l => [.int .u8 kind, .str s, .int .i64 n, .int .i64 at_, .int .i64 line, .int .i64 col, .list 7 l.length (dl l)]
def dl : List SPat → List D
  | [] => []
  | t :: r => t.d ++ dl r
end
theorem dl_eq : ∀ l : List SPat, dl l = l.flatMap d
  | [] => by simp [dl]
  | t :: r => by simp [dl, dl_eq r]
mutual
def size : SPat → Nat
  | .mk _ _ _ _ _ _ l => 1 + sizes l
def sizes : List SPat → Nat
  | [] => 0
  | t :: r => t.size + sizes r
end
theorem size_mem {t : SPat} {l : List SPat} (h : t ∈ l) : t.size ≤ sizes l := by
  induction l with
  | nil => cases h
  | cons a l ih =>
    simp only [sizes]
    rcases List.mem_cons.1 h with rfl | h
    · omega
    · have := ih h; omega
theorem size_eq (t : SPat) : t.size = 1 + sizes t.l := by cases t; simp [size, l]
theorem size_pos (t : SPat) : 1 ≤ t.size := by rw [size_eq]; omega
theorem sizes_len : ∀ l : List SPat, l.length ≤ sizes l
  | [] => by simp
  | t :: l => by have := sizes_len l; have := size_pos t; simp only [sizes, List.length_cons]; omega
theorem sizes_get (l : List SPat) (k : Nat) (h : k < l.length) : l[k].size ≤ sizes l := size_mem (List.getElem_mem h)
mutual
theorem size_wts : ∀ t : SPat, t.size ≤ D.wts t.d
  | .mk kind s n at_ line col l => by
    have := sizes_wts l
    simp only [size, d, D.wts, D.wt]; omega
theorem sizes_wts : ∀ l : List SPat, sizes l ≤ D.wts (dl l)
  | [] => by simp [sizes]
  | t :: r => by
    have h1 := size_wts t
    have h2 := sizes_wts r
    simp only [sizes, dl, wts_append]; omega
end
theorem d_eq (x : SPat) : x.d = [.int .u8 x.kind, .str x.s, .int .i64 x.n, .int .i64 x.at_, .int .i64 x.line, .int .i64 x.col, .list 7 x.l.length (x.l.flatMap SPat.d)] := by
  cases x; simp [d, kind, s, n, at_, line, col, l, dl_eq]
theorem d_len (x : SPat) : x.d.length = 7 := by cases x; simp [d]
theorem cells {w : World} {B : Nat} {us : List Value} {x : SPat} (h : Rds w B us x.d) : ∃ v6 : Value, us = [.int .u8 x.kind, .string x.s, .int .i64 x.n, .int .i64 x.at_, .int .i64 x.line, .int .i64 x.col, v6] ∧ Rd w B v6 (.list 7 x.l.length (x.l.flatMap SPat.d)) ∧ (Lit.int .u8 x.kind).wf = true ∧ (x.s).size ≤ maxLen ∧ (Lit.int .i64 x.n).wf = true ∧ (Lit.int .i64 x.at_).wf = true ∧ (Lit.int .i64 x.line).wf = true ∧ (Lit.int .i64 x.col).wf = true := by
  rw [d_eq] at h
  obtain ⟨v0, u0, rfl, h0, t0⟩ := h.cons_inv
  obtain ⟨rfl, w0⟩ := h0.int_inv
  obtain ⟨v1, u1, rfl, h1, t1⟩ := t0.cons_inv
  obtain ⟨rfl, w1⟩ := h1.str_inv
  obtain ⟨v2, u2, rfl, h2, t2⟩ := t1.cons_inv
  obtain ⟨rfl, w2⟩ := h2.int_inv
  obtain ⟨v3, u3, rfl, h3, t3⟩ := t2.cons_inv
  obtain ⟨rfl, w3⟩ := h3.int_inv
  obtain ⟨v4, u4, rfl, h4, t4⟩ := t3.cons_inv
  obtain ⟨rfl, w4⟩ := h4.int_inv
  obtain ⟨v5, u5, rfl, h5, t5⟩ := t4.cons_inv
  obtain ⟨rfl, w5⟩ := h5.int_inv
  obtain ⟨v6, u6, rfl, h6, t6⟩ := t5.cons_inv
  obtain rfl := t6.nil_inv
  exact ⟨v6, rfl, h6, w0, w1, w2, w3, w4, w5⟩
end SPat
theorem has_SPat_aux : ∀ (N : Nat) (ds : List D), D.wts ds < N → Has Tryz.prog 69 ds → ∃ x : SPat, ds = x.d := by
  intro N
  induction N with
  | zero => intro ds h; omega
  | succ N ih =>
    intro ds hN h
    obtain ⟨he, hp⟩ := h.parts (L := [(5, 0, 1), (9, 1, 1), (2, 2, 1), (24, 3, 3), (67, 6, 1)]) (by kernel_rfl)
    obtain ⟨z0, e0⟩ := (hp _ (List.mem_of_getElem? (show _ = some (5, 0, 1) from (rfl : [(5, 0, 1), (9, 1, 1), (2, 2, 1), (24, 3, 3), (67, 6, 1)][0]? = _)))).int_inv (k := .u8) (by kernel_rfl)
    obtain ⟨z1, e1⟩ := (hp _ (List.mem_of_getElem? (show _ = some (9, 1, 1) from (rfl : [(5, 0, 1), (9, 1, 1), (2, 2, 1), (24, 3, 3), (67, 6, 1)][1]? = _)))).str_inv (by kernel_rfl)
    obtain ⟨z2, e2⟩ := (hp _ (List.mem_of_getElem? (show _ = some (2, 2, 1) from (rfl : [(5, 0, 1), (9, 1, 1), (2, 2, 1), (24, 3, 3), (67, 6, 1)][2]? = _)))).int_inv (k := .i64) (by kernel_rfl)
    obtain ⟨z3, z4, z5, e3⟩ := spos (hp _ (List.mem_of_getElem? (show _ = some (24, 3, 3) from (rfl : [(5, 0, 1), (9, 1, 1), (2, 2, 1), (24, 3, 3), (67, 6, 1)][3]? = _))))
    have hlt : D.wts ((ds.drop 6).take 1) ≤ N := by have := wts_take_drop ds 6 1; omega
    obtain ⟨z6, e4⟩ := (hp _ (List.mem_of_getElem? (show _ = some (67, 6, 1) from (rfl : [(5, 0, 1), (9, 1, 1), (2, 2, 1), (24, 3, 3), (67, 6, 1)][4]? = _)))).list_of (e := 69) (k := 7) (by kernel_rfl) (by kernel_rfl) SPat.d_len (fun c hc h => ih c (by simp only at hc; omega) h)
    refine ⟨.mk z0 z1 z2 z3 z4 z5 z6, he.trans ?_⟩
    simp only [List.flatMap_cons, List.flatMap_nil, e0, e1, e2, e3, e4]
    simp [SPat.d, SPat.dl_eq]
theorem has_SPat {ds : List D} (h : Has Tryz.prog 69 ds) : ∃ x : SPat, ds = x.d := has_SPat_aux _ ds (Nat.lt_succ_self _) h
inductive STy where
  | mk (kind : Int) (s : ByteArray) (m : Int) (at_ : Int) (line : Int) (col : Int) (l : List STy)
namespace STy
def kind : STy → Int | .mk kind _ _ _ _ _ _ => kind
def s : STy → ByteArray | .mk _ s _ _ _ _ _ => s
def m : STy → Int | .mk _ _ m _ _ _ _ => m
def at_ : STy → Int | .mk _ _ _ at_ _ _ _ => at_
def line : STy → Int | .mk _ _ _ _ line _ _ => line
def col : STy → Int | .mk _ _ _ _ _ col _ => col
def l : STy → List STy | .mk _ _ _ _ _ _ l => l
end STy
namespace STy
mutual
def d : STy → List D
  | .mk kind s m at_ line col l => [.int .u8 kind, .str s, .int .u8 m, .int .i64 at_, .int .i64 line, .int .i64 col, .list 7 l.length (dl l)]
def dl : List STy → List D
  | [] => []
  | t :: r => t.d ++ dl r
end
theorem dl_eq : ∀ l : List STy, dl l = l.flatMap d
  | [] => by simp [dl]
  | t :: r => by simp [dl, dl_eq r]
mutual
def size : STy → Nat
  | .mk _ _ _ _ _ _ l => 1 + sizes l
def sizes : List STy → Nat
  | [] => 0
  | t :: r => t.size + sizes r
end
theorem size_mem {t : STy} {l : List STy} (h : t ∈ l) : t.size ≤ sizes l := by
  induction l with
  | nil => cases h
  | cons a l ih =>
    simp only [sizes]
    rcases List.mem_cons.1 h with rfl | h
    · omega
    · have := ih h; omega
theorem size_eq (t : STy) : t.size = 1 + sizes t.l := by cases t; simp [size, l]
theorem size_pos (t : STy) : 1 ≤ t.size := by rw [size_eq]; omega
theorem sizes_len : ∀ l : List STy, l.length ≤ sizes l
  | [] => by simp
  | t :: l => by have := sizes_len l; have := size_pos t; simp only [sizes, List.length_cons]; omega
theorem sizes_get (l : List STy) (k : Nat) (h : k < l.length) : l[k].size ≤ sizes l := size_mem (List.getElem_mem h)
mutual
theorem size_wts : ∀ t : STy, t.size ≤ D.wts t.d
  | .mk kind s m at_ line col l => by
    have := sizes_wts l
    simp only [size, d, D.wts, D.wt]; omega
theorem sizes_wts : ∀ l : List STy, sizes l ≤ D.wts (dl l)
  | [] => by simp [sizes]
  | t :: r => by
    have h1 := size_wts t
    have h2 := sizes_wts r
    simp only [sizes, dl, wts_append]; omega
end
theorem d_eq (x : STy) : x.d = [.int .u8 x.kind, .str x.s, .int .u8 x.m, .int .i64 x.at_, .int .i64 x.line, .int .i64 x.col, .list 7 x.l.length (x.l.flatMap STy.d)] := by
  cases x; simp [d, kind, s, m, at_, line, col, l, dl_eq]
theorem d_len (x : STy) : x.d.length = 7 := by cases x; simp [d]
theorem cells {w : World} {B : Nat} {us : List Value} {x : STy} (h : Rds w B us x.d) : ∃ v6 : Value, us = [.int .u8 x.kind, .string x.s, .int .u8 x.m, .int .i64 x.at_, .int .i64 x.line, .int .i64 x.col, v6] ∧ Rd w B v6 (.list 7 x.l.length (x.l.flatMap STy.d)) ∧ (Lit.int .u8 x.kind).wf = true ∧ (x.s).size ≤ maxLen ∧ (Lit.int .u8 x.m).wf = true ∧ (Lit.int .i64 x.at_).wf = true ∧ (Lit.int .i64 x.line).wf = true ∧ (Lit.int .i64 x.col).wf = true := by
  rw [d_eq] at h
  obtain ⟨v0, u0, rfl, h0, t0⟩ := h.cons_inv
  obtain ⟨rfl, w0⟩ := h0.int_inv
  obtain ⟨v1, u1, rfl, h1, t1⟩ := t0.cons_inv
  obtain ⟨rfl, w1⟩ := h1.str_inv
  obtain ⟨v2, u2, rfl, h2, t2⟩ := t1.cons_inv
  obtain ⟨rfl, w2⟩ := h2.int_inv
  obtain ⟨v3, u3, rfl, h3, t3⟩ := t2.cons_inv
  obtain ⟨rfl, w3⟩ := h3.int_inv
  obtain ⟨v4, u4, rfl, h4, t4⟩ := t3.cons_inv
  obtain ⟨rfl, w4⟩ := h4.int_inv
  obtain ⟨v5, u5, rfl, h5, t5⟩ := t4.cons_inv
  obtain ⟨rfl, w5⟩ := h5.int_inv
  obtain ⟨v6, u6, rfl, h6, t6⟩ := t5.cons_inv
  obtain rfl := t6.nil_inv
  exact ⟨v6, rfl, h6, w0, w1, w2, w3, w4, w5⟩
end STy
theorem has_STy_aux : ∀ (N : Nat) (ds : List D), D.wts ds < N → Has Tryz.prog 59 ds → ∃ x : STy, ds = x.d := by
  intro N
  induction N with
  | zero => intro ds h; omega
  | succ N ih =>
    intro ds hN h
    obtain ⟨he, hp⟩ := h.parts (L := [(5, 0, 1), (9, 1, 1), (56, 2, 1), (24, 3, 3), (57, 6, 1)]) (by kernel_rfl)
    obtain ⟨z0, e0⟩ := (hp _ (List.mem_of_getElem? (show _ = some (5, 0, 1) from (rfl : [(5, 0, 1), (9, 1, 1), (56, 2, 1), (24, 3, 3), (57, 6, 1)][0]? = _)))).int_inv (k := .u8) (by kernel_rfl)
    obtain ⟨z1, e1⟩ := (hp _ (List.mem_of_getElem? (show _ = some (9, 1, 1) from (rfl : [(5, 0, 1), (9, 1, 1), (56, 2, 1), (24, 3, 3), (57, 6, 1)][1]? = _)))).str_inv (by kernel_rfl)
    obtain ⟨z2, e2⟩ := (hp _ (List.mem_of_getElem? (show _ = some (56, 2, 1) from (rfl : [(5, 0, 1), (9, 1, 1), (56, 2, 1), (24, 3, 3), (57, 6, 1)][2]? = _)))).int_inv (k := .u8) (by kernel_rfl)
    obtain ⟨z3, z4, z5, e3⟩ := spos (hp _ (List.mem_of_getElem? (show _ = some (24, 3, 3) from (rfl : [(5, 0, 1), (9, 1, 1), (56, 2, 1), (24, 3, 3), (57, 6, 1)][3]? = _))))
    have hlt : D.wts ((ds.drop 6).take 1) ≤ N := by have := wts_take_drop ds 6 1; omega
    obtain ⟨z6, e4⟩ := (hp _ (List.mem_of_getElem? (show _ = some (57, 6, 1) from (rfl : [(5, 0, 1), (9, 1, 1), (56, 2, 1), (24, 3, 3), (57, 6, 1)][4]? = _)))).list_of (e := 59) (k := 7) (by kernel_rfl) (by kernel_rfl) STy.d_len (fun c hc h => ih c (by simp only at hc; omega) h)
    refine ⟨.mk z0 z1 z2 z3 z4 z5 z6, he.trans ?_⟩
    simp only [List.flatMap_cons, List.flatMap_nil, e0, e1, e2, e3, e4]
    simp [STy.d, STy.dl_eq]
theorem has_STy {ds : List D} (h : Has Tryz.prog 59 ds) : ∃ x : STy, ds = x.d := has_STy_aux _ ds (Nat.lt_succ_self _) h
mutual
inductive SExpr where
  | mk (kind : Int) (s : ByteArray) (n : Int) (at_ : Int) (line : Int) (col : Int) (l : List SExpr) (arms : List SArm)
inductive SArm where
  | mk (p : SPat) (e : SExpr)
end
namespace SExpr
def kind : SExpr → Int | .mk kind _ _ _ _ _ _ _ => kind
def s : SExpr → ByteArray | .mk _ s _ _ _ _ _ _ => s
def n : SExpr → Int | .mk _ _ n _ _ _ _ _ => n
def at_ : SExpr → Int | .mk _ _ _ at_ _ _ _ _ => at_
def line : SExpr → Int | .mk _ _ _ _ line _ _ _ => line
def col : SExpr → Int | .mk _ _ _ _ _ col _ _ => col
def l : SExpr → List SExpr | .mk _ _ _ _ _ _ l _ => l
def arms : SExpr → List SArm | .mk _ _ _ _ _ _ _ arms => arms
end SExpr
def SArm.p : SArm → SPat | .mk p _ => p
def SArm.e : SArm → SExpr | .mk _ e => e
mutual
def SExpr.d : SExpr → List D
  | .mk kind s n at_ line col l arms => [.int .u8 kind, .str s, .int .i64 n, .int .i64 at_, .int .i64 line, .int .i64 col, .list 8 l.length (SExpr.dl l), .list 15 arms.length (SArm.dl arms)]
def SExpr.dl : List SExpr → List D
  | [] => []
  | t :: r => t.d ++ SExpr.dl r
def SArm.d : SArm → List D
  | .mk p e => p.d ++ e.d
def SArm.dl : List SArm → List D
  | [] => []
  | t :: r => t.d ++ SArm.dl r
end
theorem SExpr.dl_eq : ∀ l : List SExpr, SExpr.dl l = l.flatMap SExpr.d
  | [] => by simp [SExpr.dl]
  | t :: r => by simp [SExpr.dl, SExpr.dl_eq r]
theorem SArm.dl_eq : ∀ l : List SArm, SArm.dl l = l.flatMap SArm.d
  | [] => by simp [SArm.dl]
  | t :: r => by simp [SArm.dl, SArm.dl_eq r]
mutual
def SExpr.size : SExpr → Nat
  | .mk _ _ _ _ _ _ l arms => 1 + SExpr.sizes l + SArm.sizes arms
def SExpr.sizes : List SExpr → Nat
  | [] => 0
  | t :: r => t.size + SExpr.sizes r
def SArm.size : SArm → Nat
  | .mk p e => p.size + e.size
def SArm.sizes : List SArm → Nat
  | [] => 0
  | t :: r => t.size + SArm.sizes r
end
mutual
theorem SExpr.size_wts : ∀ t : SExpr, t.size ≤ D.wts t.d
  | .mk kind s n at_ line col l arms => by
    have := SExpr.sizes_wts l
    have := SArm.sizes_wts arms
    simp only [SExpr.size, SExpr.d, D.wts, D.wt]; omega
theorem SExpr.sizes_wts : ∀ l : List SExpr, SExpr.sizes l ≤ D.wts (SExpr.dl l)
  | [] => by simp [SExpr.sizes]
  | t :: r => by
    have h1 := SExpr.size_wts t
    have h2 := SExpr.sizes_wts r
    simp only [SExpr.sizes, SExpr.dl, wts_append]; omega
theorem SArm.size_wts : ∀ t : SArm, t.size ≤ D.wts t.d
  | .mk p e => by
    have h1 := SPat.size_wts p
    have h2 := SExpr.size_wts e
    simp only [SArm.size, SArm.d, wts_append]; omega
theorem SArm.sizes_wts : ∀ l : List SArm, SArm.sizes l ≤ D.wts (SArm.dl l)
  | [] => by simp [SArm.sizes]
  | t :: r => by
    have h1 := SArm.size_wts t
    have h2 := SArm.sizes_wts r
    simp only [SArm.sizes, SArm.dl, wts_append]; omega
end
namespace SExpr
theorem size_mem {t : SExpr} {l : List SExpr} (h : t ∈ l) : t.size ≤ sizes l := by
  induction l with
  | nil => cases h
  | cons a l ih =>
    simp only [sizes]
    rcases List.mem_cons.1 h with rfl | h
    · omega
    · have := ih h; omega
theorem size_eq (t : SExpr) : t.size = 1 + sizes t.l + SArm.sizes t.arms := by cases t; simp [size, l, arms]
theorem size_pos (t : SExpr) : 1 ≤ t.size := by rw [size_eq]; omega
theorem sizes_len : ∀ l : List SExpr, l.length ≤ sizes l
  | [] => by simp
  | t :: l => by have := sizes_len l; have := size_pos t; simp only [sizes, List.length_cons]; omega
theorem sizes_get (l : List SExpr) (k : Nat) (h : k < l.length) : l[k].size ≤ sizes l := size_mem (List.getElem_mem h)
theorem d_eq (x : SExpr) : x.d = [.int .u8 x.kind, .str x.s, .int .i64 x.n, .int .i64 x.at_, .int .i64 x.line, .int .i64 x.col, .list 8 x.l.length (x.l.flatMap SExpr.d), .list 15 x.arms.length (x.arms.flatMap SArm.d)] := by
  cases x; simp [d, kind, s, n, at_, line, col, l, arms, dl_eq, SArm.dl_eq]
theorem d_len (x : SExpr) : x.d.length = 8 := by cases x; simp [d]
theorem cells {w : World} {B : Nat} {us : List Value} {x : SExpr} (h : Rds w B us x.d) : ∃ v6 v7 : Value, us = [.int .u8 x.kind, .string x.s, .int .i64 x.n, .int .i64 x.at_, .int .i64 x.line, .int .i64 x.col, v6, v7] ∧ Rd w B v6 (.list 8 x.l.length (x.l.flatMap SExpr.d)) ∧ Rd w B v7 (.list 15 x.arms.length (x.arms.flatMap SArm.d)) ∧ (Lit.int .u8 x.kind).wf = true ∧ (x.s).size ≤ maxLen ∧ (Lit.int .i64 x.n).wf = true ∧ (Lit.int .i64 x.at_).wf = true ∧ (Lit.int .i64 x.line).wf = true ∧ (Lit.int .i64 x.col).wf = true := by
  rw [d_eq] at h
  obtain ⟨v0, u0, rfl, h0, t0⟩ := h.cons_inv
  obtain ⟨rfl, w0⟩ := h0.int_inv
  obtain ⟨v1, u1, rfl, h1, t1⟩ := t0.cons_inv
  obtain ⟨rfl, w1⟩ := h1.str_inv
  obtain ⟨v2, u2, rfl, h2, t2⟩ := t1.cons_inv
  obtain ⟨rfl, w2⟩ := h2.int_inv
  obtain ⟨v3, u3, rfl, h3, t3⟩ := t2.cons_inv
  obtain ⟨rfl, w3⟩ := h3.int_inv
  obtain ⟨v4, u4, rfl, h4, t4⟩ := t3.cons_inv
  obtain ⟨rfl, w4⟩ := h4.int_inv
  obtain ⟨v5, u5, rfl, h5, t5⟩ := t4.cons_inv
  obtain ⟨rfl, w5⟩ := h5.int_inv
  obtain ⟨v6, u6, rfl, h6, t6⟩ := t5.cons_inv
  obtain ⟨v7, u7, rfl, h7, t7⟩ := t6.cons_inv
  obtain rfl := t7.nil_inv
  exact ⟨v6, v7, rfl, h6, h7, w0, w1, w2, w3, w4, w5⟩
end SExpr
namespace SArm
theorem d_eq (x : SArm) : x.d = x.p.d ++ x.e.d := by cases x; simp [d, p, e]
theorem d_len (x : SArm) : x.d.length = 15 := by rw [d_eq, List.length_append, SPat.d_len, SExpr.d_len]
theorem cells {w : World} {B : Nat} {us : List Value} {x : SArm} (h : Rds w B us x.d) : ∃ u1 u2 : List Value, us = u1 ++ u2 ∧ Rds w B u1 x.p.d ∧ Rds w B u2 x.e.d := by
  rw [d_eq] at h
  obtain ⟨hl, he⟩ := h
  have h8 := x.p.d_len
  rw [List.length_append] at hl
  refine ⟨us.take 7, us.drop 7, (List.take_append_drop _ _).symm, ⟨by rw [List.length_take]; omega, fun j u d hu hd => ?_⟩, ⟨by rw [List.length_drop]; omega, fun j u d hu hd => ?_⟩⟩
  · rw [List.getElem?_take] at hu
    split at hu
    · exact he j u d hu (by rw [List.getElem?_append_left (by omega)]; exact hd)
    · cases hu
  · rw [List.getElem?_drop] at hu
    exact he (7 + j) u d hu (by rw [List.getElem?_append_right (by omega)]; rw [h8, Nat.add_sub_cancel_left]; exact hd)
theorem size_eq (t : SArm) : t.size = t.p.size + t.e.size := by cases t; simp [size, p, e]
theorem size_pos (t : SArm) : 1 ≤ t.size := by rw [size_eq]; have := t.p.size_pos; omega
theorem size_mem {t : SArm} {l : List SArm} (h : t ∈ l) : t.size ≤ sizes l := by
  induction l with
  | nil => cases h
  | cons a l ih =>
    simp only [sizes]
    rcases List.mem_cons.1 h with rfl | h
    · omega
    · have := ih h; omega
theorem sizes_len : ∀ l : List SArm, l.length ≤ sizes l
  | [] => by simp
  | t :: l => by have := sizes_len l; have := size_pos t; simp only [sizes, List.length_cons]; omega
theorem sizes_get (l : List SArm) (k : Nat) (h : k < l.length) : l[k].size ≤ sizes l := size_mem (List.getElem_mem h)
end SArm
theorem has_SExpr_aux : ∀ (N : Nat) (ds : List D), D.wts ds < N → Has Tryz.prog 28 ds → ∃ x : SExpr, ds = x.d := by
  intro N
  induction N with
  | zero => intro ds h; omega
  | succ N ih =>
    intro ds hN h
    obtain ⟨he, hp⟩ := h.parts (L := [(5, 0, 1), (9, 1, 1), (2, 2, 1), (24, 3, 3), (25, 6, 1), (26, 7, 1)]) (by kernel_rfl)
    obtain ⟨z0, e0⟩ := (hp _ (List.mem_of_getElem? (show _ = some (5, 0, 1) from (rfl : [(5, 0, 1), (9, 1, 1), (2, 2, 1), (24, 3, 3), (25, 6, 1), (26, 7, 1)][0]? = _)))).int_inv (k := .u8) (by kernel_rfl)
    obtain ⟨z1, e1⟩ := (hp _ (List.mem_of_getElem? (show _ = some (9, 1, 1) from (rfl : [(5, 0, 1), (9, 1, 1), (2, 2, 1), (24, 3, 3), (25, 6, 1), (26, 7, 1)][1]? = _)))).str_inv (by kernel_rfl)
    obtain ⟨z2, e2⟩ := (hp _ (List.mem_of_getElem? (show _ = some (2, 2, 1) from (rfl : [(5, 0, 1), (9, 1, 1), (2, 2, 1), (24, 3, 3), (25, 6, 1), (26, 7, 1)][2]? = _)))).int_inv (k := .i64) (by kernel_rfl)
    obtain ⟨z3, z4, z5, e3⟩ := spos (hp _ (List.mem_of_getElem? (show _ = some (24, 3, 3) from (rfl : [(5, 0, 1), (9, 1, 1), (2, 2, 1), (24, 3, 3), (25, 6, 1), (26, 7, 1)][3]? = _))))
    have hlt : D.wts ((ds.drop 6).take 1) ≤ N := by have := wts_take_drop ds 6 1; omega
    have hlt2 : D.wts ((ds.drop 7).take 1) ≤ N := by have := wts_take_drop ds 7 1; omega
    obtain ⟨z6, e4⟩ := (hp _ (List.mem_of_getElem? (show _ = some (25, 6, 1) from (rfl : [(5, 0, 1), (9, 1, 1), (2, 2, 1), (24, 3, 3), (25, 6, 1), (26, 7, 1)][4]? = _)))).list_of (e := 28) (k := 8) (by kernel_rfl) (by kernel_rfl) SExpr.d_len (fun c hc h => ih c (by simp only at hc; omega) h)
    obtain ⟨z7, e5⟩ := (hp _ (List.mem_of_getElem? (show _ = some (26, 7, 1) from (rfl : [(5, 0, 1), (9, 1, 1), (2, 2, 1), (24, 3, 3), (25, 6, 1), (26, 7, 1)][5]? = _)))).list_of (e := 71) (k := 15) (by kernel_rfl) (by kernel_rfl) SArm.d_len (fun c hc h => by
      simp only at hc
      obtain ⟨ae, ap⟩ := h.parts (L := [(69, 0, 7), (28, 7, 8)]) (by kernel_rfl)
      obtain ⟨y0, a0⟩ := has_SPat (ap _ (List.mem_of_getElem? (show _ = some (69, 0, 7) from (rfl : [(69, 0, 7), (28, 7, 8)][0]? = _))))
      have g1 := ap _ (List.mem_of_getElem? (show _ = some (28, 7, 8) from (rfl : [(69, 0, 7), (28, 7, 8)][1]? = _)))
      obtain ⟨y1, a1⟩ := ih _ (by have := wts_take_drop c 7 8; simp only; omega) g1
      refine ⟨.mk y0 y1, ae.trans ?_⟩
      simp only [List.flatMap_cons, List.flatMap_nil, a0, a1]
      simp [SArm.d])
    refine ⟨.mk z0 z1 z2 z3 z4 z5 z6 z7, he.trans ?_⟩
    simp only [List.flatMap_cons, List.flatMap_nil, e0, e1, e2, e3, e4, e5]
    simp [SExpr.d, SExpr.dl_eq, SArm.dl_eq]
theorem has_SExpr {ds : List D} (h : Has Tryz.prog 28 ds) : ∃ x : SExpr, ds = x.d := has_SExpr_aux _ ds (Nat.lt_succ_self _) h
structure SField where
  m : Int
  t : STy
def SField.d (x : SField) : List D := .int .u8 x.m :: x.t.d
theorem SField.d_len (x : SField) : x.d.length = 8 := by simp [SField.d, STy.d_len]
theorem SField.cells {w : World} {B : Nat} {us : List Value} {x : SField} (h : Rds w B us x.d) : ∃ u1 : List Value, us = .int .u8 x.m :: u1 ∧ Rds w B u1 x.t.d ∧ (Lit.int .u8 x.m).wf = true := by
  unfold SField.d at h
  obtain ⟨v0, u0, rfl, h0, t0⟩ := h.cons_inv
  obtain ⟨rfl, w0⟩ := h0.int_inv
  exact ⟨u0, rfl, t0, w0⟩
structure SConD where
  name : ByteArray
  at_ : Int
  line : Int
  col : Int
  fields : List SField
def SConD.d (x : SConD) : List D := [.str x.name, .int .i64 x.at_, .int .i64 x.line, .int .i64 x.col, .list 8 x.fields.length (x.fields.flatMap SField.d)]
theorem SConD.d_eq (x : SConD) : x.d = [.str x.name, .int .i64 x.at_, .int .i64 x.line, .int .i64 x.col, .list 8 x.fields.length (x.fields.flatMap SField.d)] := rfl
theorem SConD.d_len (x : SConD) : x.d.length = 5 := rfl
namespace SConD
theorem cells {w : World} {B : Nat} {us : List Value} {x : SConD} (h : Rds w B us x.d) : ∃ v4 : Value, us = [.string x.name, .int .i64 x.at_, .int .i64 x.line, .int .i64 x.col, v4] ∧ Rd w B v4 (.list 8 x.fields.length (x.fields.flatMap SField.d)) ∧ (x.name).size ≤ maxLen ∧ (Lit.int .i64 x.at_).wf = true ∧ (Lit.int .i64 x.line).wf = true ∧ (Lit.int .i64 x.col).wf = true := by
  rw [d_eq] at h
  obtain ⟨v0, u0, rfl, h0, t0⟩ := h.cons_inv
  obtain ⟨rfl, w0⟩ := h0.str_inv
  obtain ⟨v1, u1, rfl, h1, t1⟩ := t0.cons_inv
  obtain ⟨rfl, w1⟩ := h1.int_inv
  obtain ⟨v2, u2, rfl, h2, t2⟩ := t1.cons_inv
  obtain ⟨rfl, w2⟩ := h2.int_inv
  obtain ⟨v3, u3, rfl, h3, t3⟩ := t2.cons_inv
  obtain ⟨rfl, w3⟩ := h3.int_inv
  obtain ⟨v4, u4, rfl, h4, t4⟩ := t3.cons_inv
  obtain rfl := t4.nil_inv
  exact ⟨v4, rfl, h4, w0, w1, w2, w3⟩
end SConD
structure SDecl where
  kind : Int
  name : ByteArray
  at_ : Int
  line : Int
  col : Int
  params : List ByteArray
  cons : List SConD
  rc : Bool
  e : SExpr
def SDecl.d (x : SDecl) : List D := [.int .u8 x.kind, .str x.name, .int .i64 x.at_, .int .i64 x.line, .int .i64 x.col, .list 1 x.params.length (x.params.flatMap fun s => [D.str s]), .list 5 x.cons.length (x.cons.flatMap SConD.d), .bool x.rc] ++ x.e.d
theorem SDecl.d_len (x : SDecl) : x.d.length = 16 := by simp [SDecl.d, SExpr.d_len]
theorem SDecl.cells {w : World} {B : Nat} {us : List Value} {x : SDecl} (h : Rds w B us x.d) : ∃ (v5 v6 : Value) (u1 : List Value), us = [.int .u8 x.kind, .string x.name, .int .i64 x.at_, .int .i64 x.line, .int .i64 x.col, v5, v6, .bool x.rc] ++ u1 ∧ Rd w B v5 (.list 1 x.params.length (x.params.flatMap fun s => [D.str s])) ∧ Rd w B v6 (.list 5 x.cons.length (x.cons.flatMap SConD.d)) ∧ Rds w B u1 x.e.d ∧ (Lit.int .u8 x.kind).wf = true ∧ (x.name).size ≤ maxLen := by
  unfold SDecl.d at h
  simp only [List.cons_append, List.nil_append] at h
  obtain ⟨v0, u0, rfl, h0, t0⟩ := h.cons_inv
  obtain ⟨rfl, w0⟩ := h0.int_inv
  obtain ⟨v1, u1, rfl, h1, t1⟩ := t0.cons_inv
  obtain ⟨rfl, w1⟩ := h1.str_inv
  obtain ⟨v2, u2, rfl, h2, t2⟩ := t1.cons_inv
  obtain ⟨rfl, w2⟩ := h2.int_inv
  obtain ⟨v3, u3, rfl, h3, t3⟩ := t2.cons_inv
  obtain ⟨rfl, w3⟩ := h3.int_inv
  obtain ⟨v4, u4, rfl, h4, t4⟩ := t3.cons_inv
  obtain ⟨rfl, w4⟩ := h4.int_inv
  obtain ⟨v5, u5, rfl, h5, t5⟩ := t4.cons_inv
  obtain ⟨v6, u6, rfl, h6, t6⟩ := t5.cons_inv
  obtain ⟨v7, u7, rfl, h7, t7⟩ := t6.cons_inv
  obtain rfl := h7.bool_inv
  exact ⟨v5, v6, u7, rfl, h5, h6, t7, w0, w1⟩
theorem has_SField {ds : List D} (h : Has Tryz.prog 61 ds) : ∃ x : SField, ds = x.d := by
  obtain ⟨he, hp⟩ := h.parts (L := [(56, 0, 1), (59, 1, 7)]) (by kernel_rfl)
  obtain ⟨z0, e0⟩ := (hp _ (List.mem_of_getElem? (show _ = some (56, 0, 1) from (rfl : [(56, 0, 1), (59, 1, 7)][0]? = _)))).int_inv (k := .u8) (by kernel_rfl)
  obtain ⟨z1, e1⟩ := has_STy (hp _ (List.mem_of_getElem? (show _ = some (59, 1, 7) from (rfl : [(56, 0, 1), (59, 1, 7)][1]? = _))))
  refine ⟨⟨z0, z1⟩, he.trans ?_⟩
  simp only [List.flatMap_cons, List.flatMap_nil, e0, e1]
  simp [SField.d]
theorem has_SConD {ds : List D} (h : Has Tryz.prog 64 ds) : ∃ x : SConD, ds = x.d := by
  obtain ⟨he, hp⟩ := h.parts (L := [(9, 0, 1), (24, 1, 3), (62, 4, 1)]) (by kernel_rfl)
  obtain ⟨z0, e0⟩ := (hp _ (List.mem_of_getElem? (show _ = some (9, 0, 1) from (rfl : [(9, 0, 1), (24, 1, 3), (62, 4, 1)][0]? = _)))).str_inv (by kernel_rfl)
  obtain ⟨z1, z2, z3, e1⟩ := spos (hp _ (List.mem_of_getElem? (show _ = some (24, 1, 3) from (rfl : [(9, 0, 1), (24, 1, 3), (62, 4, 1)][1]? = _))))
  obtain ⟨z4, e2⟩ := (hp _ (List.mem_of_getElem? (show _ = some (62, 4, 1) from (rfl : [(9, 0, 1), (24, 1, 3), (62, 4, 1)][2]? = _)))).list_of (e := 61) (k := 8) (by kernel_rfl) (by kernel_rfl) SField.d_len (fun c _ h => has_SField h)
  refine ⟨⟨z0, z1, z2, z3, z4⟩, he.trans ?_⟩
  simp only [List.flatMap_cons, List.flatMap_nil, e0, e1, e2]
  rfl
theorem has_SDecl {ds : List D} (h : Has Tryz.prog 40 ds) : ∃ x : SDecl, ds = x.d := by
  obtain ⟨he, hp⟩ := h.parts (L := [(5, 0, 1), (9, 1, 1), (24, 2, 3), (37, 5, 1), (38, 6, 1), (4, 7, 1), (28, 8, 8)]) (by kernel_rfl)
  obtain ⟨z0, e0⟩ := (hp _ (List.mem_of_getElem? (show _ = some (5, 0, 1) from (rfl : [(5, 0, 1), (9, 1, 1), (24, 2, 3), (37, 5, 1), (38, 6, 1), (4, 7, 1), (28, 8, 8)][0]? = _)))).int_inv (k := .u8) (by kernel_rfl)
  obtain ⟨z1, e1⟩ := (hp _ (List.mem_of_getElem? (show _ = some (9, 1, 1) from (rfl : [(5, 0, 1), (9, 1, 1), (24, 2, 3), (37, 5, 1), (38, 6, 1), (4, 7, 1), (28, 8, 8)][1]? = _)))).str_inv (by kernel_rfl)
  obtain ⟨z2, z3, z4, e2⟩ := spos (hp _ (List.mem_of_getElem? (show _ = some (24, 2, 3) from (rfl : [(5, 0, 1), (9, 1, 1), (24, 2, 3), (37, 5, 1), (38, 6, 1), (4, 7, 1), (28, 8, 8)][2]? = _))))
  obtain ⟨z5, e3⟩ := (hp _ (List.mem_of_getElem? (show _ = some (37, 5, 1) from (rfl : [(5, 0, 1), (9, 1, 1), (24, 2, 3), (37, 5, 1), (38, 6, 1), (4, 7, 1), (28, 8, 8)][3]? = _)))).list_of (e := 9) (k := 1) (f := fun s => [D.str s]) (by kernel_rfl) (by kernel_rfl) (fun _ => rfl) (fun c _ h => h.str_inv (by kernel_rfl))
  obtain ⟨z6, e4⟩ := (hp _ (List.mem_of_getElem? (show _ = some (38, 6, 1) from (rfl : [(5, 0, 1), (9, 1, 1), (24, 2, 3), (37, 5, 1), (38, 6, 1), (4, 7, 1), (28, 8, 8)][4]? = _)))).list_of (e := 64) (k := 5) (by kernel_rfl) (by kernel_rfl) SConD.d_len (fun c _ h => has_SConD h)
  obtain ⟨z7, e5⟩ := (hp _ (List.mem_of_getElem? (show _ = some (4, 7, 1) from (rfl : [(5, 0, 1), (9, 1, 1), (24, 2, 3), (37, 5, 1), (38, 6, 1), (4, 7, 1), (28, 8, 8)][5]? = _)))).bool_inv (by kernel_rfl)
  obtain ⟨z8, e6⟩ := has_SExpr (hp _ (List.mem_of_getElem? (show _ = some (28, 8, 8) from (rfl : [(5, 0, 1), (9, 1, 1), (24, 2, 3), (37, 5, 1), (38, 6, 1), (4, 7, 1), (28, 8, 8)][6]? = _))))
  refine ⟨⟨z0, z1, z2, z3, z4, z5, z6, z7, z8⟩, he.trans ?_⟩
  simp only [List.flatMap_cons, List.flatMap_nil, e0, e1, e2, e3, e4, e5, e6]
  simp [SDecl.d]
end Go.Proofs.YtnneooidkbhbeaaGreatDoor
