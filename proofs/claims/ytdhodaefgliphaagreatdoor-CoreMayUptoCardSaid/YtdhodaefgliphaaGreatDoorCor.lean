/- Small laws about worlds, rows of cells and values, of no program. -/
import Derived.WalkKit
import Derived.WalkSmall
import Derived.OneCell
import Derived.Lib.Hide
import Derived.Test.YtdhodaefgliphaaGreatDoorRows
import Derived.Deep.Slices
import Derived.ChangeArms
import Derived.KernelRfl
set_option linter.unusedVariables false
set_option linter.unusedSimpArgs false
namespace Go.Proofs.YtdhodaefgliphaaGreatDoor
open Go.RowKit
theorem own_keep {w w' : World} {base : Nat} {e : TypeId} {size : Nat} {v : Value} {n : Nat} {xs : List Value} (h : w.ownsRow base e size v n xs)
  (hk : ∀ g, v.ownBlock = some g → w'.heap[g]? = w.heap[g]?) : w'.ownsRow base e size v n xs := by
 refine ⟨h.1, ?_⟩
 rcases h.2 with hn | ⟨g, cap, cur, rfl, hb, hgg, rest⟩
 ·exact .inl hn
 ·exact .inr ⟨g, cap, cur, rfl, hb, by rw [hk g rfl]; exact hgg, rest⟩
theorem own_below {w w' : World} {B base : Nat} {e : TypeId} {size : Nat} {v : Value} {n : Nat} {xs : List Value} (h : w.ownsRow base e size v n xs)
  (hb : Below B w w') (hB : w.heap.size ≤ B) : w'.ownsRow base e size v n xs :=
 own_keep h fun g hg => hb.block g (by have := (h.lt g hg).2; omega)
theorem own_base {w : World} {base base' : Nat} {e : TypeId} {size : Nat} {v : Value} {n : Nat} {xs : List Value} (h : w.ownsRow base e size v n xs)
  (hb : base' ≤ base) : w.ownsRow base' e size v n xs := by
 refine ⟨h.1, ?_⟩
 rcases h.2 with hn | ⟨g, cap, cur, rfl, hbg, rest⟩
 ·exact .inl hn
 ·exact .inr ⟨g, cap, cur, rfl, by omega, rest⟩
theorem own_slice {w : World} {base : Nat} {e : TypeId} {size : Nat} {v : Value} {n : Nat} {xs : List Value} (h : w.ownsRow base e size v n xs) : ∃ a cap, v = .slice a n cap := by
 rcases h.2 with ⟨rfl, rfl⟩ | ⟨g, cap, cur, rfl, _⟩
 ·exact ⟨none, 0, rfl⟩
 ·exact ⟨_, cap, rfl⟩
theorem block_below {w w' : World} {B k : Nat} {o : Obj} (hb : Below B w w') (h : w.heap[k]? = some o) (hk : k < B) : w'.heap[k]? = some o := (hb.block k hk).trans h
theorem lt_of_heap {w : World} {b : Nat} {o : Obj} (h : w.heap[b]? = some o) : b < w.heap.size := (Array.getElem?_eq_some_iff.1 h).1
def Row (w : World) (B : Nat) (size : Nat) (v : Value) (n : Nat) (xs : List Value) : Prop :=
 xs.length = n * size ∧ n ≤ maxLen ∧
 ((n = 0 ∧ ∃ a c, v = .slice a 0 c) ∨
  ∃ b off cap, v = .slice (some ⟨b, off, none⟩) n cap ∧ b < B ∧ n ≤ cap ∧ ∀ j u, xs[j]? = some u → w.cell? ⟨b, off + j, none⟩ = some u)
theorem Row.below {w w' : World} {B size : Nat} {v : Value} {n : Nat} {xs : List Value} (h : Row w B size v n xs) (hb : Below B w w') : Row w' B size v n xs := by
 obtain ⟨h1, h2, h3⟩ := h
 refine ⟨h1, h2, ?_⟩
 rcases h3 with hn | ⟨b, off, cap, rfl, hB, hc, hx⟩
 ·exact .inl hn
 ·exact .inr ⟨b, off, cap, rfl, hB, hc, fun j u hj => (hb.cell (p := ⟨b, off + j, none⟩) hB).trans (hx j u hj)⟩
theorem Row.mono {w : World} {B B' size : Nat} {v : Value} {n : Nat} {xs : List Value} (h : Row w B size v n xs) (hB : B ≤ B') : Row w B' size v n xs := by
 obtain ⟨h1, h2, h3⟩ := h
 refine ⟨h1, h2, ?_⟩
 rcases h3 with hn | ⟨b, off, cap, rfl, hb, hc, hx⟩
 ·exact .inl hn
 ·exact .inr ⟨b, off, cap, rfl, by omega, hc, hx⟩
theorem Row.own {w : World} {B base : Nat} {e : TypeId} {size : Nat} {v : Value} {n : Nat} {xs : List Value} (h : w.ownsRow base e size v n xs) (hB : w.heap.size ≤ B) : Row w B size v n xs := by
 rcases h.2 with ⟨rfl, rfl⟩ | ⟨g, cap, cur, rfl, hb, hg, hn, hc, hs, ht⟩
 ·exact ⟨h.1, Nat.zero_le _, .inl ⟨rfl, _, _, rfl⟩⟩
 ·refine ⟨h.1, by omega, .inr ⟨g, 0, cap, rfl, by have := lt_of_heap hg; omega, hn, fun j u hj => ?_⟩⟩
  have := h.cells (g := g) rfl j u hj
  have hadd : (⟨g, 0, none⟩ : Addr).add j = ⟨g, 0 + j, none⟩ := by unfold Addr.add; split <;> simp_all
  rwa [hadd] at this
theorem Row.slice {w : World} {B size : Nat} {v : Value} {n : Nat} {xs : List Value} (h : Row w B size v n xs) : ∃ a cap, v = .slice a n cap := by
 rcases h.2.2 with ⟨rfl, a, c, rfl⟩ | ⟨b, off, cap, rfl, _⟩
 ·exact ⟨a, c, rfl⟩
 ·exact ⟨_, _, rfl⟩
def Blk (w : World) (b : Nat) (cs : Array Value) (t : TypeId) : Prop := w.heap[b]? = some (.cells cs t (0, 0))
theorem Blk.cell {w : World} {b : Nat} {cs : Array Value} {t : TypeId} (h : Blk w b cs t) (j : Nat) : w.cell? ⟨b, j, none⟩ = cs[j]? := cell_of_row w b j cs t (0, 0) h
theorem Blk.free {w : World} {b : Nat} {cs : Array Value} {t : TypeId} (h : Blk w b cs t) (j : Nat) : w.frozen? ⟨b, j, none⟩ = false := by
 unfold Blk at h
 simp [World.frozen?, h]
theorem Blk.lt {w : World} {b : Nat} {cs : Array Value} {t : TypeId} (h : Blk w b cs t) : b < w.heap.size := lt_of_heap h
theorem Blk.set {w : World} {b : Nat} {cs : Array Value} {t : TypeId} (h : Blk w b cs t) (j : Nat) (v : Value) : Blk (w.setCell ⟨b, j, none⟩ v) b (cs.setIfInBounds j v) t := by
 have hlt := h.lt
 unfold Blk at h ⊢
 have h' : w.heap[b] = .cells cs t (0, 0) := by simpa [Array.getElem?_eq_getElem hlt] using h
 show (w.heap.modify b _)[b]? = _
 rw [Array.getElem?_eq_getElem (by simpa using hlt), Array.getElem_modify_self, h']
 rfl
theorem Blk.setOther {w : World} {b : Nat} {cs : Array Value} {t : TypeId} (h : Blk w b cs t) {a : Addr} (ha : b ≠ a.block) (v : Value) : Blk (w.setCell a v) b cs t := by
 unfold Blk at h ⊢
 rw [Below.heap_setCell _ _ _ _ ha]; exact h
theorem Blk.alloc {w : World} {b : Nat} {cs : Array Value} {t : TypeId} (h : Blk w b cs t) (o : Obj) : Blk (w.alloc o) b cs t := by
 have := h.lt
 unfold Blk at h ⊢
 rw [Below.heap_alloc _ _ _ this]; exact h
theorem Blk.below {w w' : World} {b B : Nat} {cs : Array Value} {t : TypeId} (h : Blk w b cs t) (hb : Below B w w') (hB : b < B) : Blk w' b cs t := block_below hb h hB
theorem Blk.new (w : World) (b : Nat) (cs : Array Value) (t : TypeId) (hb : b = w.heap.size) : Blk (w.alloc (.cells cs t)) b cs t := by subst hb; exact heap_alloc_new w _
theorem Blk.drew {w : World} {b : Nat} {cs : Array Value} {t : TypeId} (h : Blk w b cs t) : Blk w.drew b cs t := h
theorem own_drew {w : World} {base : Nat} {e : TypeId} {size : Nat} {v : Value} {n : Nat} {xs : List Value} (h : w.ownsRow base e size v n xs) : w.drew.ownsRow base e size v n xs := h
theorem Blk.of {w w' : World} {b : Nat} {cs : Array Value} {t : TypeId} (h : Blk w b cs t) (hk : w'.heap[b]? = w.heap[b]?) : Blk w' b cs t := hk.trans h
theorem Below.drewN {B : Nat} {a w : World} (h : Below B a w) (n : Nat) : Below B a (w.drewN n) := ⟨h.os, h.tape, h.output, h.size, h.block⟩
theorem cell_al1 {w : World} {p : Addr} {u : Value} (h : w.cell? p = some u) (hb : p.block < w.heap.size) (o1 : Obj) : (w.alloc o1).cell? p = some u :=
 (((Below.refl _ _).alloc (Nat.le_refl _) o1).cell hb).trans h
theorem cell_al2 {w : World} {p : Addr} {u : Value} (h : w.cell? p = some u) (hb : p.block < w.heap.size) (o1 o2 : Obj) : ((w.alloc o1).alloc o2).cell? p = some u :=
 cell_al1 (cell_al1 h hb o1) (by simp; omega) o2
theorem cell_al3 {w : World} {p : Addr} {u : Value} (h : w.cell? p = some u) (hb : p.block < w.heap.size) (o1 o2 o3 : Obj) : (((w.alloc o1).alloc o2).alloc o3).cell? p = some u :=
 cell_al1 (cell_al2 h hb o1 o2) (by simp; omega) o3
end Go.Proofs.YtdhodaefgliphaaGreatDoor
namespace Go.Proofs.YtdhodaefgliphaaGreatDoor
open Go.RowKit Go.ChangeShapes Go.WideShapes
inductive D where
 | int (k : IntKind) (z : Int)
 | bool (b : Bool)
 | str (s : ByteArray)
 | list (size n : Nat) (ds : List D)
mutual
def D.wt : D → Nat
 | .int _ _ => 1
 | .bool _ => 1
 | .str s => s.size + 1
 | .list _ _ ds => D.wts ds + 1
def D.wts : List D → Nat
 | [] => 0
 | d :: r => d.wt + D.wts r
end
inductive Rd (w : World) (B : Nat) : Value → D → Prop
 | int {k : IntKind} {z : Int} (h : (Lit.int k z).wf = true) : Rd w B (.int k z) (.int k z)
 | bool {b : Bool} : Rd w B (.bool b) (.bool b)
 | str {s : ByteArray} (h : s.size ≤ maxLen) : Rd w B (.string s) (.str s)
 | list {size n : Nat} {v : Value} {xs : List Value} {ds : List D} (h : Row w B size v n xs) (hl : ds.length = xs.length) (he : ∀ (j : Nat) (u : Value) (d : D), xs[j]? = some u → ds[j]? = some d → Rd w B u d) : Rd w B v (.list size n ds)
def Rds (w : World) (B : Nat) (us : List Value) (ds : List D) : Prop := ds.length = us.length ∧ ∀ (j : Nat) (u : Value) (d : D), us[j]? = some u → ds[j]? = some d → Rd w B u d
theorem Rd.keep {w w' : World} {B : Nat} {v : Value} {d : D} (h : Rd w B v d) (hb : Below B w w') : Rd w' B v d := by
 induction h with
 | int h => exact .int h
 | bool => exact .bool
 | str h => exact .str h
 | list h hl _ ih => exact .list (h.below hb) hl ih
theorem Rd.mono {w : World} {B B' : Nat} {v : Value} {d : D} (h : Rd w B v d) (hB : B ≤ B') : Rd w B' v d := by
 induction h with
 | int h => exact .int h
 | bool => exact .bool
 | str h => exact .str h
 | list h hl _ ih => exact .list (h.mono hB) hl ih
theorem Rds.keep {w w' : World} {B : Nat} {us : List Value} {ds : List D} (h : Rds w B us ds) (hb : Below B w w') : Rds w' B us ds := ⟨h.1, fun j u d hu hd => (h.2 j u d hu hd).keep hb⟩
theorem Rds.mono {w : World} {B B' : Nat} {us : List Value} {ds : List D} (h : Rds w B us ds) (hB : B ≤ B') : Rds w B' us ds := ⟨h.1, fun j u d hu hd => (h.2 j u d hu hd).mono hB⟩
theorem Rds.nil {w : World} {B : Nat} : Rds w B [] [] := ⟨rfl, fun j u d hu => by simp at hu⟩
theorem Rds.cons {w : World} {B : Nat} {u : Value} {us : List Value} {d : D} {ds : List D} (h : Rd w B u d) (hs : Rds w B us ds) : Rds w B (u :: us) (d :: ds) :=
 ⟨by simp [hs.1], fun j u' d' hu hd => by
   cases j with
   | zero => simp at hu hd; subst hu hd; exact h
   | succ j => simp at hu hd; exact hs.2 j _ _ hu hd⟩
theorem Rds.cons_inv {w : World} {B : Nat} {us : List Value} {d : D} {ds : List D} (h : Rds w B us (d :: ds)) : ∃ u us', us = u :: us' ∧ Rd w B u d ∧ Rds w B us' ds := by
 obtain ⟨hl, he⟩ := h
 cases us with
 | nil => simp at hl
 | cons u us => exact ⟨u, us, rfl, he 0 u d rfl rfl, by simpa using hl, fun j u' d' hu hd => he (j + 1) u' d' (by simpa using hu) (by simpa using hd)⟩
theorem Rds.nil_inv {w : World} {B : Nat} {us : List Value} (h : Rds w B us []) : us = [] := by
 have := h.1; simp at this; exact List.eq_nil_of_length_eq_zero this.symm
theorem Rds.append {w : World} {B : Nat} {us us' : List Value} {ds ds' : List D} (h : Rds w B us ds) (h' : Rds w B us' ds') : Rds w B (us ++ us') (ds ++ ds') := by
 refine ⟨by simp [h.1, h'.1], fun j u d hu hd => ?_⟩
 by_cases hj : j < us.length
 ·rw [List.getElem?_append_left hj] at hu
  rw [List.getElem?_append_left (by rw [h.1]; exact hj)] at hd
  exact h.2 j u d hu hd
 ·rw [List.getElem?_append_right (by omega)] at hu
  rw [List.getElem?_append_right (by rw [h.1]; omega), h.1] at hd
  exact h'.2 _ u d hu hd
theorem Rd.list_inv {w : World} {B : Nat} {v : Value} {size n : Nat} {ds : List D} (h : Rd w B v (.list size n ds)) : ∃ xs, Row w B size v n xs ∧ Rds w B xs ds := by
 cases h with
 | list h hl he => exact ⟨_, h, hl, he⟩
theorem Rd.mk {w : World} {B : Nat} {v : Value} {size n : Nat} {ds : List D} {xs : List Value} (h : Row w B size v n xs) (h' : Rds w B xs ds) : Rd w B v (.list size n ds) := .list h h'.1 h'.2
theorem Rd.int_inv {w : World} {B : Nat} {v : Value} {k : IntKind} {z : Int} (h : Rd w B v (.int k z)) : v = .int k z ∧ (Lit.int k z).wf = true := by cases h with | int h => exact ⟨rfl, h⟩
theorem Rd.bool_inv {w : World} {B : Nat} {v : Value} {b : Bool} (h : Rd w B v (.bool b)) : v = .bool b := by cases h; rfl
theorem Rd.str_inv {w : World} {B : Nat} {v : Value} {s : ByteArray} (h : Rd w B v (.str s)) : v = .string s ∧ s.size ≤ maxLen := by cases h with | str h => exact ⟨rfl, h⟩
theorem Rd.slice_inv {w : World} {B : Nat} {v : Value} {size n : Nat} {ds : List D} (h : Rd w B v (.list size n ds)) : ∃ a cap, v = .slice a n cap := by
 obtain ⟨xs, hr, _⟩ := h.list_inv
 exact hr.slice
theorem flat_len {α β : Type} (f : α → List β) (k : Nat) (hf : ∀ x, (f x).length = k) : ∀ l : List α, (l.flatMap f).length = l.length * k
 | [] => by simp
 | x :: l => by simp only [List.flatMap_cons, List.length_append, hf, flat_len f k hf l, List.length_cons, Nat.succ_mul]; omega
theorem flat_get {α β : Type} (f : α → List β) (k : Nat) (hf : ∀ x, (f x).length = k) : ∀ (l : List α) (i j : Nat) (h : i < l.length), j < k → (l.flatMap f)[i * k + j]? = (f l[i])[j]?
 | x :: l, 0, j, h, hj => by
   simp only [List.flatMap_cons, Nat.zero_mul, Nat.zero_add, List.getElem_cons_zero]
   rw [List.getElem?_append_left (by rw [hf]; exact hj)]
 | x :: l, i + 1, j, h, hj => by
   simp only [List.flatMap_cons, List.getElem_cons_succ]
   have hk : k ≤ (i + 1) * k + j := by rw [Nat.succ_mul]; omega
   rw [List.getElem?_append_right (by rw [hf]; exact hk), hf]
   have : (i + 1) * k + j - k = i * k + j := by rw [Nat.succ_mul]; omega
   rw [this]
   exact flat_get f k hf l i j (by simpa using h) hj
theorem flat_take {α β : Type} (f : α → List β) (k : Nat) (hf : ∀ x, (f x).length = k) (l : List α) (i : Nat) (h : i < l.length) : ((l.flatMap f).drop (i * k)).take k = f l[i] := by
 apply List.ext_getElem?
 intro j
 by_cases hj : j < k
 ·rw [List.getElem?_take_of_lt hj, List.getElem?_drop, flat_get f k hf l i j h hj]
 ·rw [List.getElem?_eq_none (by simp; omega), List.getElem?_eq_none (by rw [hf]; omega)]
theorem Rd.elem {α : Type} {w : World} {B k : Nat} {v : Value} {f : α → List D} {l : List α} {n : Nat} (h : Rd w B v (.list k n (l.flatMap f))) (hf : ∀ x, (f x).length = k) (hn : n = l.length) (i : Nat) (hi : i < l.length) (hk : 0 < k) :
  ∃ b off cap us, v = .slice (some ⟨b, off, none⟩) l.length cap ∧ b < B ∧ l.length ≤ cap ∧ (∀ j u, us[j]? = some u → w.cell? ⟨b, off + i * k + j, none⟩ = some u) ∧ Rds w B us (f l[i]) := by
 subst hn
 obtain ⟨xs, ⟨hx, hm, hr⟩, hl, he⟩ := h.list_inv
 rcases hr with ⟨h0, _⟩ | ⟨b, off, cap, rfl, hb, hc, hcell⟩
 ·omega
 refine ⟨b, off, cap, (xs.drop (i * k)).take k, rfl, hb, hc, fun j u hu => ?_, ?_, fun j u d hu hd => ?_⟩
 ·rw [List.getElem?_take] at hu
  split at hu
  ·rw [List.getElem?_drop] at hu
   rw [Nat.add_assoc]; exact hcell _ _ hu
  ·cases hu
 ·have : i * k + k ≤ l.length * k := by rw [← Nat.succ_mul]; exact Nat.mul_le_mul_right _ hi
  rw [hf, List.length_take, List.length_drop, hx]; omega
 ·rw [List.getElem?_take] at hu
  split at hu
  ·rename_i hjk
   rw [List.getElem?_drop] at hu
   exact he _ u d hu (by rw [flat_get f k hf l i j hi hjk]; exact hd)
  ·cases hu
inductive Has (P : Program) : TypeId → List D → Prop
 | int {t k z} (h : P.underlying t = some (.int k)) (hw : (Lit.int k z).wf = true) : Has P t [.int k z]
 | bool {t b} (h : P.underlying t = some .bool) : Has P t [.bool b]
 | str {t s} (h : P.underlying t = some .string) (hs : s.size ≤ maxLen) : Has P t [.str s]
 | slice {t e} {n : Nat} {ds : List D} (h : P.underlying t = some (.slice e)) (hl : ds.length = n * P.cellsOf e) (he : ∀ i, i < n → Has P e ((ds.drop (i * P.cellsOf e)).take (P.cellsOf e))) : Has P t [.list (P.cellsOf e) n ds]
 | struct {t fs} {ds : List D} (h : P.underlying t = some (.struct fs)) (hl : ds.length = P.cellsOf t) (he : ∀ (i : Nat) (f : Field), fs[i]? = some f → Has P f.type ((ds.drop f.offset).take (P.cellsOf f.type))) : Has P t ds
section
variable {H : Type} {enc : TypeId × Value → H} {P : Program} {w : World} {base : Nat} {spare : Nat → Bool} {held : Bool}
theorem cells_of_add (a : Addr) (w : World) (i : Nat) (u : Value) (h : w.cell? (a.add i) = some u) (h0 : ∃ u0, w.cell? (a.add 0) = some u0) : w.cell? ⟨a.block, a.off + i, none⟩ = some u := by
 obtain ⟨u0, h0⟩ := h0
 have hs : a.spot = none := by
  have : a.add 0 = a := by simp [Addr.add]
  rw [this] at h0
  unfold World.cell? at h0
  split at h0
  ·split at h0
   ·cases h0
   ·rename_i hn; simpa using hn
  ·cases h0
 have : a.add i = ⟨a.block, a.off + i, none⟩ := by
  unfold Addr.add
  split
  ·rename_i h; subst h; cases a; simp at hs; subst hs; simp
  ·rfl
 rw [← this]; exact h
def lays (P : Program) : List Field → Nat → Nat → Bool
 | [], o, n => o == n
 | f :: r, o, n => f.offset == o && lays P r (o + P.cellsOf f.type) n
def plainT (P : Program) (ok : List TypeId) (t : TypeId) : Bool :=
 match P.underlying t with
 | some .bool => true
 | some (.int _) => true
 | some .string => true
 | some (.slice e) => ok.contains e && decide (0 < P.cellsOf e)
 | some (.struct fs) => fs.toList.all (fun f => ok.contains f.type) && lays P fs.toList 0 (P.cellsOf t)
 | _ => false
def plainAll (P : Program) (ok : List TypeId) : Bool := ok.all (plainT P ok)
theorem wts_append (a b : List D) : D.wts (a ++ b) = D.wts a + D.wts b := by
 induction a with
 | nil => simp [D.wts]
 | cons d a ih => simp only [List.cons_append, D.wts, ih]; omega
theorem wts_flat {ι : Type} (f : ι → List D) (g : ι → DataW H) (hfg : ∀ i, D.wts (f i) ≤ Rows.uptoBulk (g i)) : ∀ l : List ι, D.wts (l.flatMap f) ≤ Rows.uptoBulkAll (l.map g)
 | [] => by simp [D.wts]
 | i :: l => by
   have := wts_flat f g hfg l
   have := hfg i
   simp only [List.flatMap_cons, wts_append, List.map_cons, Rows.uptoBulkAll]; omega
theorem wts_flat_mem {ι : Type} (f : ι → List D) (g : ι → DataW H) : ∀ (l : List ι), (∀ i ∈ l, D.wts (f i) ≤ Rows.uptoBulk (g i)) → D.wts (l.flatMap f) ≤ Rows.uptoBulkAll (l.map g)
 | [], _ => by simp [D.wts]
 | i :: l, h => by
   have := wts_flat_mem f g l (fun j hj => h j (List.mem_cons_of_mem _ hj))
   have := h i (List.mem_cons_self ..)
   simp only [List.flatMap_cons, wts_append, List.map_cons, Rows.uptoBulkAll]; omega
theorem struct_aux {B : Nat} {cs : List Value} {n : Nat} (hn : cs.length = n) : ∀ (fl : List Field) (xs : List (DataW H)) (o : Nat), lays P fl o n = true → o ≤ n → xs.length = fl.length →
  (∀ (i : Nat) (f : Field) (x : DataW H), fl[i]? = some f → xs[i]? = some x → ∃ ds, Rds w B ((cs.drop f.offset).take (P.cellsOf f.type)) ds ∧ Has P f.type ds ∧ D.wts ds ≤ Rows.uptoBulk x) →
  ∃ ds, Rds w B (cs.drop o) ds ∧ (∀ (i : Nat) (f : Field), fl[i]? = some f → o ≤ f.offset ∧ Has P f.type ((ds.drop (f.offset - o)).take (P.cellsOf f.type))) ∧ D.wts ds ≤ Rows.uptoBulkAll xs
 | [], xs, o, hl, ho, hx, _ => by
   simp only [lays, beq_iff_eq] at hl
   subst hl
   rw [← hn, List.drop_length]
   exact ⟨[], Rds.nil, fun i f h => by simp at h, by simp [D.wts]⟩
 | f :: r, [], o, _, _, hx, _ => by simp at hx
 | f :: r, x :: xs, o, hl, ho, hx, hf => by
   simp only [lays, Bool.and_eq_true, beq_iff_eq] at hl
   obtain ⟨hfo, hl⟩ := hl
   obtain ⟨d0, hr0, hh0, hw0⟩ := hf 0 f x rfl rfl
   have hle : ∀ (r : List Field) (o : Nat), lays P r o n = true → o ≤ n := by
    intro r
    induction r with
    | nil => intro o h; simp only [lays, beq_iff_eq] at h; omega
    | cons g r ih => intro o h; simp only [lays, Bool.and_eq_true, beq_iff_eq] at h; have := ih _ h.2; omega
   have ho' := hle r _ hl
   obtain ⟨ds, hr, hh, hw⟩ := struct_aux hn r xs (o + P.cellsOf f.type) hl ho' (by simpa using hx) (fun i g y hg hy => hf (i + 1) g y (by simpa using hg) (by simpa using hy))
   rw [hfo] at hr0
   have hd0 : d0.length = P.cellsOf f.type := by rw [hr0.1, List.length_take, List.length_drop]; omega
   refine ⟨d0 ++ ds, ?_, ?_, by simp only [wts_append, Rows.uptoBulkAll]; omega⟩
   ·have : cs.drop o = (cs.drop o).take (P.cellsOf f.type) ++ cs.drop (o + P.cellsOf f.type) := by
     rw [← List.drop_drop]; exact (List.take_append_drop _ _).symm
    rw [this]
    exact hr0.append hr
   ·intro i g hg
    cases i with
    | zero =>
      simp at hg; subst hg
      refine ⟨by omega, ?_⟩
      rw [hfo, Nat.sub_self, List.drop_zero, List.take_append_of_le_length (by omega), List.take_of_length_le (by omega)]
      exact hh0
    | succ i =>
      obtain ⟨h1, h2⟩ := hh i g (by simpa using hg)
      refine ⟨by omega, ?_⟩
      have : (d0 ++ ds).drop (g.offset - o) = ds.drop (g.offset - (o + P.cellsOf f.type)) := by
       rw [List.drop_append, List.drop_of_length_le (by omega), List.nil_append, hd0]; congr 1; omega
      rw [this]; exact h2
theorem rd_of_trod {B : Nat} (ok : List TypeId) (hok : plainAll P ok = true) : ∀ (fuel : Nat) (t : TypeId) (cs : List Value) (x : DataW H × List MemPlace), t ∈ ok → DataW.trod enc P w base spare held fuel t cs = some x → (∀ p ∈ x.2, p.block < B) →
  ∃ ds, Rds w B cs ds ∧ Has P t ds ∧ D.wts ds ≤ Rows.uptoBulk x.1 := by
 intro fuel
 induction fuel with
 | zero => intro t cs x _ h; simp [DataW.trod] at h
 | succ fuel ih =>
   intro t cs x ht h hB
   have hp : plainT P ok t = true := List.all_eq_true.1 hok t ht
   unfold plainT at hp
   split at hp
   ·rename_i hu
    obtain ⟨b, rfl, rfl⟩ := DataW.trod_bool hu h
    exact ⟨[.bool b], Rds.cons .bool Rds.nil, .bool hu, by simp [D.wts, D.wt, Rows.uptoBulk]⟩
   ·rename_i k hu
    obtain ⟨z, rfl, rfl, hw⟩ := DataW.trod_int hu h
    exact ⟨[.int k z], Rds.cons (.int hw) Rds.nil, .int hu hw, by simp [D.wts, D.wt, Rows.uptoBulk]⟩
   ·rename_i hu
    obtain ⟨s, rfl, rfl, hs⟩ := DataW.trod_string hu h
    refine ⟨[.str s], Rds.cons (.str hs) Rds.nil, .str hu hs, ?_⟩
    simp only [D.wts, D.wt, Rows.uptoBulk, Array.length_toList]
    exact Nat.le_refl _
   ·rename_i e hu
    simp only [Bool.and_eq_true, decide_eq_true_eq] at hp
    obtain ⟨hp, hk⟩ := hp
    have he : e ∈ ok := by simpa using hp
    rcases DataW.trod_slice hu h with ⟨rfl, rfl⟩ | ⟨a, len, cap, elems, rest, n, hfn, rfl, rfl, hb, hl, hm, hlen, hel, _⟩
    ·refine ⟨[.list (P.cellsOf e) 0 []], Rds.cons (.list (xs := []) ⟨by simp, Nat.zero_le _, .inl ⟨rfl, none, 0, rfl⟩⟩ rfl (fun j u d hu => by simp at hu)) Rds.nil, .slice hu (by simp) (fun i hi => by omega), by simp [D.wts, D.wt, Rows.uptoBulk]⟩
    ·obtain rfl : fuel = n := by omega
     have hone : ∀ i, i < len → ∃ y : List Value × List D, w.cells? base (a.add (i * P.cellsOf e)) (P.cellsOf e) = some y.1 ∧ Rds w B y.1 y.2 ∧ Has P e y.2 ∧ D.wts y.2 ≤ Rows.uptoBulk ((elems.map (·.1)).getD i .nil) := by
      intro i hi
      have h1 := hel i hi
      obtain ⟨cs', hcs', h2⟩ := Option.bind_eq_some_iff.1 (h1.trans (List.getElem?_eq_getElem (by omega)))
      obtain ⟨ds, g1, g2, g3⟩ := ih e cs' _ he h2 (fun p hp => hB p (List.mem_append_right _ (List.mem_flatMap.2 ⟨_, List.mem_append_left _ (List.getElem_mem _), hp⟩)))
      refine ⟨(cs', ds), hcs', g1, g2, ?_⟩
      have : (elems.map (·.1)).getD i .nil = (elems[i]'(by omega)).1 := by simp [List.getD, List.getElem?_eq_getElem (show i < elems.length by omega)]
      rw [this]; exact g3
     obtain ⟨F, hF⟩ := Go.Deep.choose_lt (α := List Value × List D) hone
     have hkv : ∀ i, i < len → (F i).1.length = P.cellsOf e := fun i hi => (World.cells?_some (hF i hi).1).2.1
     have hkd : ∀ i, i < len → (F i).2.length = P.cellsOf e := fun i hi => by rw [(hF i hi).2.1.1]; exact hkv i hi
     let V : Nat → List Value := fun i => if i < len then (F i).1 else List.replicate (P.cellsOf e) undef
     let E : Nat → List D := fun i => if i < len then (F i).2 else List.replicate (P.cellsOf e) (.bool false)
     have hV : ∀ i, (V i).length = P.cellsOf e := fun i => by dsimp only [V]; split; exact hkv i ‹_›; simp
     have hE : ∀ i, (E i).length = P.cellsOf e := fun i => by dsimp only [E]; split; exact hkd i ‹_›; simp
     have hRd : ∀ l : List Nat, (∀ i ∈ l, i < len) → Rds w B (l.flatMap V) (l.flatMap E) := by
      intro l
      induction l with
      | nil => intro _; exact Rds.nil
      | cons i l ihl =>
        intro hm
        simp only [List.flatMap_cons]
        refine Rds.append ?_ (ihl fun j hj => hm j (List.mem_cons_of_mem _ hj))
        have hi := hm i (List.mem_cons_self ..)
        simp only [V, E, if_pos hi]
        exact (hF i hi).2.1
     have hlenV := flat_len V (P.cellsOf e) hV (List.range len)
     have hlenE := flat_len E (P.cellsOf e) hE (List.range len)
     rw [List.length_range] at hlenV hlenE
     have hrd := hRd (List.range len) (fun i hi => List.mem_range.1 hi)
     refine ⟨[.list (P.cellsOf e) len ((List.range len).flatMap E)], Rds.cons (Rd.mk (xs := (List.range len).flatMap V) ⟨hlenV, by omega, ?_⟩ hrd) Rds.nil, .slice hu hlenE (fun i hi => ?_), ?_⟩
     ·rcases Nat.eq_zero_or_pos len with h0 | h0
      ·exact .inl ⟨h0, some a, cap, by rw [h0]⟩
      ·have hc0 : ∃ u0, w.cell? (a.add 0) = some u0 := by
        have := World.cells?_some (hF 0 h0).1
        have h3 := this.2.2 0 hk
        rw [List.getElem?_eq_getElem (by rw [hkv 0 h0]; exact hk), Nat.zero_mul, Go.Deep.add_add] at h3
        exact ⟨_, h3⟩
       have hsp : a = ⟨a.block, a.off, none⟩ := by
        obtain ⟨u0, h00⟩ := hc0
        have e0 : a.add 0 = a := by simp [Addr.add]
        rw [e0] at h00
        unfold World.cell? at h00
        split at h00
        ·split at h00
         ·cases h00
         ·rename_i hn; cases a; simp at hn; subst hn; rfl
        ·cases h00
       refine .inr ⟨a.block, a.off, cap, by rw [← hsp], ?_, hl, fun j u hj => ?_⟩
       ·refine hB (.cell a.block (a.off + 0)) (List.mem_append_left _ ?_)
        refine List.mem_map.2 ⟨0, ?_, rfl⟩
        rw [List.mem_range]
        exact Nat.mul_pos (by omega) hk
       ·have hjl : j < len * P.cellsOf e := by
         have := (List.getElem?_eq_some_iff.1 hj).1
         omega
        have hd := Nat.div_add_mod j (P.cellsOf e)
        have hi : j / P.cellsOf e < len := (Nat.div_lt_iff_lt_mul hk).2 hjl
        have hr := Nat.mod_lt j hk
        have hidx : j / P.cellsOf e * P.cellsOf e + j % P.cellsOf e = j := by rw [Nat.mul_comm]; exact hd
        have hg := flat_get V (P.cellsOf e) hV (List.range len) (j / P.cellsOf e) (j % P.cellsOf e) (by simpa using hi) hr
        rw [hidx, hj] at hg
        simp only [List.getElem_range, V, if_pos hi] at hg
        have := (World.cells?_some (hF _ hi).1).2.2 _ hr
        rw [Go.Deep.add_add, hidx, ← hg] at this
        exact cells_of_add a w j u this hc0
     ·rw [flat_take E (P.cellsOf e) hE (List.range len) i (by simpa using hi)]
      simp only [List.getElem_range, E, if_pos hi]
      exact (hF i hi).2.2.1
     ·simp only [D.wts, D.wt, Rows.uptoBulk]
      have h1 := wts_flat_mem E (fun i => (elems.map (·.1)).getD i .nil) (List.range len) (fun i hi => by
       have hi' := List.mem_range.1 hi
       simp only [E, if_pos hi']
       exact (hF i hi').2.2.2)
      have h2 : (List.range len).map (fun i => (elems.map (·.1)).getD i .nil) = elems.map (·.1) := by
       have := Go.Deep.map_by_index (elems.map (·.1)) .nil id
       rw [List.map_id, List.length_map, hlen] at this
       exact this.symm
      rw [h2] at h1
      omega
   ·rename_i fs hu
    simp only [Bool.and_eq_true] at hp
    obtain ⟨hp1, hp2⟩ := hp
    obtain ⟨xs, n, hfn, rfl, hcl, hxl, hf⟩ := DataW.trod_struct hu h
    obtain rfl : fuel = n := by omega
    obtain ⟨ds, h1, h2, h3⟩ := struct_aux (P := P) (w := w) (B := B) hcl fs.toList (xs.map (·.1)) 0 hp2 (Nat.zero_le _) (by simpa using hxl) (fun i f y hfi hy => by
     have hfi' : fs[i]? = some f := by simpa using hfi
     have hx : xs[i]? = some (xs[i]'(by have := (Array.getElem?_eq_some_iff.1 hfi').1; omega)) := List.getElem?_eq_getElem _
     have hq := hf i f hfi'
     rw [hx] at hq
     have hmem : f.type ∈ ok := by
      have := List.all_eq_true.1 hp1 f (List.mem_of_getElem? hfi)
      simpa using this
     obtain ⟨ds, g1, g2, g3⟩ := ih f.type _ _ hmem hq (fun p hp => hB p (List.mem_flatMap.2 ⟨_, List.getElem_mem _, hp⟩))
     refine ⟨ds, g1, g2, ?_⟩
     rw [List.getElem?_map, hx] at hy
     simp at hy
     rw [← hy]; exact g3)
    refine ⟨ds, by simpa using h1, .struct hu ?_ (fun i f hfi => ?_), ?_⟩
    ·have := h1.1; rw [List.drop_zero] at this; omega
    ·have := (h2 i f (by simpa using hfi)).2
     simpa using this
    ·simp only [Rows.uptoBulk]; omega
   ·cases hp
end
end Go.Proofs.YtdhodaefgliphaaGreatDoor
namespace Go.Proofs.YtdhodaefgliphaaGreatDoor
open Go.RowKit Go.ChangeShapes Go.WideShapes
def sigOf (P : Program) (t : TypeId) : Option (List (TypeId × Nat × Nat)) :=
 match P.underlying t with
 | some (.struct fs) => if lays P fs.toList 0 (P.cellsOf t) then some (fs.toList.map fun f => (f.type, f.offset, P.cellsOf f.type)) else none
 | _ => none
def intOfT (P : Program) (t : TypeId) : Option IntKind := match P.underlying t with | some (.int k) => some k | _ => none
def boolOfT (P : Program) (t : TypeId) : Bool := match P.underlying t with | some .bool => true | _ => false
def strOfT (P : Program) (t : TypeId) : Bool := match P.underlying t with | some .string => true | _ => false
def elemOfT (P : Program) (t : TypeId) : Option TypeId := match P.underlying t with | some (.slice e) => some e | _ => none
theorem chunks (P : Program) (ds : List D) (n : Nat) (hn : ds.length = n) : ∀ (fl : List Field) (o : Nat), lays P fl o n = true → ds.drop o = (fl.map fun f => (f.type, f.offset, P.cellsOf f.type)).flatMap fun x => (ds.drop x.2.1).take x.2.2
 | [], o, h => by
   simp only [lays, beq_iff_eq] at h
   subst h
   rw [← hn, List.drop_length]; rfl
 | f :: r, o, h => by
   simp only [lays, Bool.and_eq_true, beq_iff_eq] at h
   obtain ⟨rfl, h⟩ := h
   have := chunks P ds n hn r _ h
   simp only [List.map_cons, List.flatMap_cons]
   rw [← this, ← List.drop_drop, List.take_append_drop]
theorem Has.parts {P : Program} {t : TypeId} {ds : List D} {L : List (TypeId × Nat × Nat)} (h : Has P t ds) (hs : sigOf P t = some L) :
  (ds = L.flatMap fun x => (ds.drop x.2.1).take x.2.2) ∧ ∀ x ∈ L, Has P x.1 ((ds.drop x.2.1).take x.2.2) := by
 unfold sigOf at hs
 cases h with
 | int h => rw [h] at hs; cases hs
 | bool h => rw [h] at hs; cases hs
 | str h => rw [h] at hs; cases hs
 | slice h => rw [h] at hs; cases hs
 | struct h hl he =>
   rw [h] at hs
   simp only at hs
   split at hs
   ·rename_i hlay
    injection hs with hs
    subst hs
    refine ⟨by have := chunks P ds _ hl _ 0 hlay; rwa [List.drop_zero] at this, fun x hx => ?_⟩
    obtain ⟨f, hf, rfl⟩ := List.mem_map.1 hx
    obtain ⟨i, hi⟩ := List.mem_iff_getElem?.1 hf
    exact he i f (by simpa using hi)
   ·cases hs
theorem Has.int_inv {P : Program} {t : TypeId} {ds : List D} {k : IntKind} (h : Has P t ds) (hs : intOfT P t = some k) : ∃ z, ds = [.int k z] := by
 unfold intOfT at hs
 cases h with
 | int h hw => rw [h] at hs; injection hs with hs; subst hs; exact ⟨_, rfl⟩
 | bool h => rw [h] at hs; cases hs
 | str h => rw [h] at hs; cases hs
 | slice h => rw [h] at hs; cases hs
 | struct h => rw [h] at hs; cases hs
theorem Has.bool_inv {P : Program} {t : TypeId} {ds : List D} (h : Has P t ds) (hs : boolOfT P t = true) : ∃ z, ds = [.bool z] := by
 unfold boolOfT at hs
 cases h with
 | bool h => exact ⟨_, rfl⟩
 | int h hw => rw [h] at hs; cases hs
 | str h => rw [h] at hs; cases hs
 | slice h => rw [h] at hs; cases hs
 | struct h => rw [h] at hs; cases hs
theorem Has.str_inv {P : Program} {t : TypeId} {ds : List D} (h : Has P t ds) (hs : strOfT P t = true) : ∃ z, ds = [.str z] := by
 unfold strOfT at hs
 cases h with
 | str h => exact ⟨_, rfl⟩
 | int h hw => rw [h] at hs; cases hs
 | bool h => rw [h] at hs; cases hs
 | slice h => rw [h] at hs; cases hs
 | struct h => rw [h] at hs; cases hs
theorem Has.slice_inv {P : Program} {t e : TypeId} {ds : List D} (h : Has P t ds) (hs : elemOfT P t = some e) :
  ∃ n ds', ds = [.list (P.cellsOf e) n ds'] ∧ ds'.length = n * P.cellsOf e ∧ ∀ i, i < n → Has P e ((ds'.drop (i * P.cellsOf e)).take (P.cellsOf e)) := by
 unfold elemOfT at hs
 cases h with
 | slice h hl he => rw [h] at hs; injection hs with hs; subst hs; exact ⟨_, _, rfl, hl, he⟩
 | int h hw => rw [h] at hs; cases hs
 | bool h => rw [h] at hs; cases hs
 | str h => rw [h] at hs; cases hs
 | struct h => rw [h] at hs; cases hs
theorem wts_take_drop (ds : List D) (i k : Nat) : D.wts ((ds.drop i).take k) ≤ D.wts ds := by
 have h1 := wts_append (ds.take i) (ds.drop i)
 have h2 := wts_append ((ds.drop i).take k) ((ds.drop i).drop k)
 rw [List.take_append_drop] at h1 h2
 omega
theorem list_build {α : Type} {P : Program} {e : TypeId} (f : α → List D) (k : Nat) : ∀ (n : Nat) (ds : List D), ds.length = n * k → (∀ i, i < n → Has P e ((ds.drop (i * k)).take k)) →
  (∀ c, D.wts c ≤ D.wts ds → Has P e c → ∃ x, c = f x) → ∃ l : List α, n = l.length ∧ ds = l.flatMap f
 | 0, ds, hl, _, _ => ⟨[], rfl, by have : ds = [] := List.eq_nil_of_length_eq_zero (by omega); rw [this]; rfl⟩
 | n + 1, ds, hl, he, hX => by
   obtain ⟨x, hx⟩ := hX _ (wts_take_drop ds 0 k) (by have := he 0 (by omega); simpa using this)
   have hl' : ds.length = n * k + k := by rw [hl, Nat.succ_mul]
   obtain ⟨l, hln, hd⟩ := list_build (P := P) (e := e) f k n (ds.drop k) (by rw [List.length_drop]; omega) (fun i hi => by
    have := he (i + 1) (by omega)
    rw [List.drop_drop]
    rwa [Nat.succ_mul, Nat.add_comm] at this) (fun c hc hh => hX c (by
     have := wts_append (ds.take k) (ds.drop k)
     rw [List.take_append_drop] at this; omega) hh)
   refine ⟨x :: l, by simp [hln], ?_⟩
   rw [List.flatMap_cons, ← hx, ← hd, List.drop_zero, List.take_append_drop]
theorem Has.list_of {α : Type} {P : Program} {t e : TypeId} {ds : List D} {k : Nat} {f : α → List D} (h : Has P t ds) (hs : elemOfT P t = some e) (hk : P.cellsOf e = k) (_hf : ∀ x, (f x).length = k)
  (hX : ∀ c, D.wts c < D.wts ds → Has P e c → ∃ x, c = f x) : ∃ l : List α, ds = [.list k l.length (l.flatMap f)] := by
 obtain ⟨n, ds', rfl, hl, he⟩ := h.slice_inv hs
 rw [hk] at hl he
 obtain ⟨l, rfl, rfl⟩ := list_build f k n ds' hl he (fun c hc hh => hX c (by simp only [D.wts, D.wt]; omega) hh)
 exact ⟨l, by rw [hk]⟩
theorem ints_flat (k : IntKind) : ∀ l : List Int, (l.flatMap fun z => [D.int k z]) = l.map (D.int k)
 | [] => rfl
 | z :: l => by simp only [List.flatMap_cons, ints_flat k l, List.map_cons]; rfl
theorem Has.ints_inv {P : Program} {t e : TypeId} {ds : List D} {k : IntKind} (h : Has P t ds) (hs : elemOfT P t = some e) (hi : intOfT P e = some k) (hk : P.cellsOf e = 1) : ∃ l : List Int, ds = [.list 1 l.length (l.map (D.int k))] := by
 obtain ⟨l, hl⟩ := h.list_of (f := fun z : Int => [D.int k z]) hs hk (fun _ => rfl) (fun c _ hh => hh.int_inv hi)
 exact ⟨l, by rw [hl, ints_flat]⟩
structure Mu where
 v : Int
 c : Int
def Mu.d (x : Mu) : List D := [.int .i64 x.v, .int .u8 x.c]
theorem Mu.d_len (x : Mu) : x.d.length = 2 := rfl
theorem Mu.cells {w : World} {B : Nat} {us : List Value} {x : Mu} (h : Rds w B us x.d) : us = [.int .i64 x.v, .int .u8 x.c] ∧ (Lit.int .i64 x.v).wf = true ∧ (Lit.int .u8 x.c).wf = true := by
 unfold Mu.d at h
 obtain ⟨v0, u0, rfl, h0, t0⟩ := h.cons_inv
 obtain ⟨rfl, w0⟩ := h0.int_inv
 obtain ⟨v1, u1, rfl, h1, t1⟩ := t0.cons_inv
 obtain ⟨rfl, w1⟩ := h1.int_inv
 obtain rfl := t1.nil_inv
 exact ⟨rfl, w0, w1⟩
theorem has_Mu {ds : List D} (h : Has Tryz.prog 91 ds) : ∃ x : Mu, ds = x.d := by
 obtain ⟨he, hp⟩ := h.parts (L := [(3, 0, 1), (89, 1, 1)]) (by kernel_rfl)
 obtain ⟨z0, e0⟩ := (hp _ (List.mem_of_getElem? (show _ = some (3, 0, 1) from (rfl : [(3, 0, 1), (89, 1, 1)][0]? = _)))).int_inv (k := .i64) (by kernel_rfl)
 obtain ⟨z1, e1⟩ := (hp _ (List.mem_of_getElem? (show _ = some (89, 1, 1) from (rfl : [(3, 0, 1), (89, 1, 1)][1]? = _)))).int_inv (k := .u8) (by kernel_rfl)
 refine ⟨⟨z0, z1⟩, he.trans ?_⟩
 simp only [List.flatMap_cons, List.flatMap_nil, e0, e1]
 rfl
inductive Ty where
 | mk (kind n v c : Int) (l : List Ty)
namespace Ty
def kind : Ty → Int | .mk k _ _ _ _ => k
def n : Ty → Int | .mk _ n _ _ _ => n
def v : Ty → Int | .mk _ _ v _ _ => v
def c : Ty → Int | .mk _ _ _ c _ => c
def l : Ty → List Ty | .mk _ _ _ _ l => l
mutual
def d : Ty → List D
 | .mk kind n v c l => [.int .u8 kind, .int .i64 n, .int .i64 v, .int .u8 c, .list 5 l.length (dl l)]
def dl : List Ty → List D
 | [] => []
 | t :: r => t.d ++ dl r
end
theorem dl_eq : ∀ l : List Ty, dl l = l.flatMap d
 | [] => by simp [dl]
 | t :: r => by simp [dl, dl_eq r]
theorem d_eq (x : Ty) : x.d = [.int .u8 x.kind, .int .i64 x.n, .int .i64 x.v, .int .u8 x.c, .list 5 x.l.length (x.l.flatMap Ty.d)] := by
 cases x; simp [d, kind, n, v, c, l, dl_eq]
theorem d_len (x : Ty) : x.d.length = 5 := by cases x; simp [d]
theorem cells {w : World} {B : Nat} {us : List Value} {x : Ty} (h : Rds w B us x.d) : ∃ v4 : Value, us = [.int .u8 x.kind, .int .i64 x.n, .int .i64 x.v, .int .u8 x.c, v4] ∧ Rd w B v4 (.list 5 x.l.length (x.l.flatMap Ty.d)) ∧
  (Lit.int .u8 x.kind).wf = true ∧ (Lit.int .i64 x.n).wf = true ∧ (Lit.int .i64 x.v).wf = true ∧ (Lit.int .u8 x.c).wf = true := by
 rw [d_eq] at h
 obtain ⟨v0, u0, rfl, h0, t0⟩ := h.cons_inv
 obtain ⟨rfl, w0⟩ := h0.int_inv
 obtain ⟨v1, u1, rfl, h1, t1⟩ := t0.cons_inv
 obtain ⟨rfl, w1⟩ := h1.int_inv
 obtain ⟨v2, u2, rfl, h2, t2⟩ := t1.cons_inv
 obtain ⟨rfl, w2⟩ := h2.int_inv
 obtain ⟨v3, u3, rfl, h3, t3⟩ := t2.cons_inv
 obtain ⟨rfl, w3⟩ := h3.int_inv
 obtain ⟨v4, u4, rfl, h4, t4⟩ := t3.cons_inv
 obtain rfl := t4.nil_inv
 exact ⟨v4, rfl, h4, w0, w1, w2, w3⟩
def size : Ty → Nat
 | .mk _ _ _ _ l => 1 + sizes l
where sizes : List Ty → Nat
 | [] => 0
 | t :: r => t.size + sizes r
theorem size_mem {t : Ty} {l : List Ty} (h : t ∈ l) : t.size ≤ size.sizes l := by
 induction l with
 | nil => cases h
 | cons a l ih =>
   simp only [size.sizes]
   rcases List.mem_cons.1 h with rfl | h
   ·omega
   ·have := ih h; omega
end Ty
theorem has_Ty_aux : ∀ (N : Nat) (ds : List D), D.wts ds < N → Has Tryz.prog 93 ds → ∃ x : Ty, ds = x.d := by
 intro N
 induction N with
 | zero => intro ds h; omega
 | succ N ih =>
   intro ds hN h
   obtain ⟨he, hp⟩ := h.parts (L := [(5, 0, 1), (3, 1, 1), (91, 2, 2), (85, 4, 1)]) (by kernel_rfl)
   obtain ⟨z0, e0⟩ := (hp _ (List.mem_of_getElem? (show _ = some (5, 0, 1) from (rfl : [(5, 0, 1), (3, 1, 1), (91, 2, 2), (85, 4, 1)][0]? = _)))).int_inv (k := .u8) (by kernel_rfl)
   obtain ⟨z1, e1⟩ := (hp _ (List.mem_of_getElem? (show _ = some (3, 1, 1) from (rfl : [(5, 0, 1), (3, 1, 1), (91, 2, 2), (85, 4, 1)][1]? = _)))).int_inv (k := .i64) (by kernel_rfl)
   obtain ⟨z2, e2⟩ := has_Mu (hp _ (List.mem_of_getElem? (show _ = some (91, 2, 2) from (rfl : [(5, 0, 1), (3, 1, 1), (91, 2, 2), (85, 4, 1)][2]? = _))))
   have hlt : D.wts ((ds.drop 4).take 1) ≤ N := by have := wts_take_drop ds 4 1; omega
   obtain ⟨z3, e3⟩ := (hp _ (List.mem_of_getElem? (show _ = some (85, 4, 1) from (rfl : [(5, 0, 1), (3, 1, 1), (91, 2, 2), (85, 4, 1)][3]? = _)))).list_of (e := 93) (k := 5) (by kernel_rfl) (by kernel_rfl) Ty.d_len (fun c hc h => ih c (by simp only at hc; omega) h)
   refine ⟨.mk z0 z1 z2.v z2.c z3, he.trans ?_⟩
   simp only [List.flatMap_cons, List.flatMap_nil, e0, e1, e2, e3]
   simp [Ty.d, Mu.d, Ty.dl_eq]
theorem has_Ty {ds : List D} (h : Has Tryz.prog 93 ds) : ∃ x : Ty, ds = x.d := has_Ty_aux _ ds (Nat.lt_succ_self _) h
structure Data where
 name : ByteArray
 params : Int
 cons : List Int
def Data.d (x : Data) : List D := [.str x.name, .int .i64 x.params, .list 1 (x.cons).length ((x.cons).map (D.int .i64))]
theorem Data.d_len (x : Data) : x.d.length = 3 := rfl
theorem Data.cells {w : World} {B : Nat} {us : List Value} {x : Data} (h : Rds w B us x.d) : ∃ v2 : Value, us = [.string x.name, .int .i64 x.params, v2] ∧ (x.name).size ≤ maxLen ∧ (Lit.int .i64 x.params).wf = true ∧ Rd w B v2 (.list 1 (x.cons).length ((x.cons).map (D.int .i64))) := by
 unfold Data.d at h
 obtain ⟨v0, u0, rfl, h0, t0⟩ := h.cons_inv
 obtain ⟨rfl, w0⟩ := h0.str_inv
 obtain ⟨v1, u1, rfl, h1, t1⟩ := t0.cons_inv
 obtain ⟨rfl, w1⟩ := h1.int_inv
 obtain ⟨v2, u2, rfl, h2, t2⟩ := t1.cons_inv
 obtain rfl := t2.nil_inv
 exact ⟨v2, rfl, w0, w1, h2⟩
theorem has_Data {ds : List D} (h : Has Tryz.prog 97 ds) : ∃ x : Data, ds = x.d := by
 obtain ⟨he, hp⟩ := h.parts (L := [(9, 0, 1), (3, 1, 1), (53, 2, 1)]) (by kernel_rfl)
 obtain ⟨z0, e0⟩ := (hp _ (List.mem_of_getElem? (show _ = some (9, 0, 1) from (rfl : [(9, 0, 1), (3, 1, 1), (53, 2, 1)][0]? = _)))).str_inv (by kernel_rfl)
 obtain ⟨z1, e1⟩ := (hp _ (List.mem_of_getElem? (show _ = some (3, 1, 1) from (rfl : [(9, 0, 1), (3, 1, 1), (53, 2, 1)][1]? = _)))).int_inv (k := .i64) (by kernel_rfl)
 obtain ⟨z2, e2⟩ := (hp _ (List.mem_of_getElem? (show _ = some (53, 2, 1) from (rfl : [(9, 0, 1), (3, 1, 1), (53, 2, 1)][2]? = _)))).ints_inv (k := .i64) (e := 3) (by kernel_rfl) (by kernel_rfl) (by kernel_rfl)
 refine ⟨⟨z0, z1, z2⟩, he.trans ?_⟩
 simp only [List.flatMap_cons, List.flatMap_nil, e0, e1, e2]
 rfl
structure Con where
 name : ByteArray
 data : Int
 fields : List Ty
 mults : List Int
def Con.d (x : Con) : List D := [.str x.name, .int .i64 x.data, .list 5 (x.fields).length ((x.fields).flatMap Ty.d), .list 1 (x.mults).length ((x.mults).map (D.int .u8))]
theorem Con.d_len (x : Con) : x.d.length = 4 := rfl
theorem Con.cells {w : World} {B : Nat} {us : List Value} {x : Con} (h : Rds w B us x.d) : ∃ v2 v3 : Value, us = [.string x.name, .int .i64 x.data, v2, v3] ∧ (x.name).size ≤ maxLen ∧ (Lit.int .i64 x.data).wf = true ∧ Rd w B v2 (.list 5 (x.fields).length ((x.fields).flatMap Ty.d)) ∧ Rd w B v3 (.list 1 (x.mults).length ((x.mults).map (D.int .u8))) := by
 unfold Con.d at h
 obtain ⟨v0, u0, rfl, h0, t0⟩ := h.cons_inv
 obtain ⟨rfl, w0⟩ := h0.str_inv
 obtain ⟨v1, u1, rfl, h1, t1⟩ := t0.cons_inv
 obtain ⟨rfl, w1⟩ := h1.int_inv
 obtain ⟨v2, u2, rfl, h2, t2⟩ := t1.cons_inv
 obtain ⟨v3, u3, rfl, h3, t3⟩ := t2.cons_inv
 obtain rfl := t3.nil_inv
 exact ⟨v2, v3, rfl, w0, w1, h2, h3⟩
theorem has_Con {ds : List D} (h : Has Tryz.prog 88 ds) : ∃ x : Con, ds = x.d := by
 obtain ⟨he, hp⟩ := h.parts (L := [(9, 0, 1), (3, 1, 1), (85, 2, 1), (86, 3, 1)]) (by kernel_rfl)
 obtain ⟨z0, e0⟩ := (hp _ (List.mem_of_getElem? (show _ = some (9, 0, 1) from (rfl : [(9, 0, 1), (3, 1, 1), (85, 2, 1), (86, 3, 1)][0]? = _)))).str_inv (by kernel_rfl)
 obtain ⟨z1, e1⟩ := (hp _ (List.mem_of_getElem? (show _ = some (3, 1, 1) from (rfl : [(9, 0, 1), (3, 1, 1), (85, 2, 1), (86, 3, 1)][1]? = _)))).int_inv (k := .i64) (by kernel_rfl)
 obtain ⟨z2, e2⟩ := (hp _ (List.mem_of_getElem? (show _ = some (85, 2, 1) from (rfl : [(9, 0, 1), (3, 1, 1), (85, 2, 1), (86, 3, 1)][2]? = _)))).list_of (e := 93) (k := 5) (by kernel_rfl) (by kernel_rfl) Ty.d_len (fun c _ h => has_Ty h)
 obtain ⟨z3, e3⟩ := (hp _ (List.mem_of_getElem? (show _ = some (86, 3, 1) from (rfl : [(9, 0, 1), (3, 1, 1), (85, 2, 1), (86, 3, 1)][3]? = _)))).ints_inv (k := .u8) (e := 89) (by kernel_rfl) (by kernel_rfl) (by kernel_rfl)
 refine ⟨⟨z0, z1, z2, z3⟩, he.trans ?_⟩
 simp only [List.flatMap_cons, List.flatMap_nil, e0, e1, e2, e3]
 rfl
structure Sig where
 datas : List Data
 cons : List Con
def Sig.d (x : Sig) : List D := [.list 3 (x.datas).length ((x.datas).flatMap Data.d), .list 4 (x.cons).length ((x.cons).flatMap Con.d)]
theorem Sig.d_len (x : Sig) : x.d.length = 2 := rfl
theorem Sig.cells {w : World} {B : Nat} {us : List Value} {x : Sig} (h : Rds w B us x.d) : ∃ v0 v1 : Value, us = [v0, v1] ∧ Rd w B v0 (.list 3 (x.datas).length ((x.datas).flatMap Data.d)) ∧ Rd w B v1 (.list 4 (x.cons).length ((x.cons).flatMap Con.d)) := by
 unfold Sig.d at h
 obtain ⟨v0, u0, rfl, h0, t0⟩ := h.cons_inv
 obtain ⟨v1, u1, rfl, h1, t1⟩ := t0.cons_inv
 obtain rfl := t1.nil_inv
 exact ⟨v0, v1, rfl, h0, h1⟩
theorem has_Sig {ds : List D} (h : Has Tryz.prog 25 ds) : ∃ x : Sig, ds = x.d := by
 obtain ⟨he, hp⟩ := h.parts (L := [(22, 0, 1), (23, 1, 1)]) (by kernel_rfl)
 obtain ⟨z0, e0⟩ := (hp _ (List.mem_of_getElem? (show _ = some (22, 0, 1) from (rfl : [(22, 0, 1), (23, 1, 1)][0]? = _)))).list_of (e := 97) (k := 3) (by kernel_rfl) (by kernel_rfl) Data.d_len (fun c _ h => has_Data h)
 obtain ⟨z1, e1⟩ := (hp _ (List.mem_of_getElem? (show _ = some (23, 1, 1) from (rfl : [(22, 0, 1), (23, 1, 1)][1]? = _)))).list_of (e := 88) (k := 4) (by kernel_rfl) (by kernel_rfl) Con.d_len (fun c _ h => has_Con h)
 refine ⟨⟨z0, z1⟩, he.trans ?_⟩
 simp only [List.flatMap_cons, List.flatMap_nil, e0, e1]
 rfl
end Go.Proofs.YtdhodaefgliphaaGreatDoor
namespace Go.Proofs.YtdhodaefgliphaaGreatDoor
open Go.RowKit Go.ChangeShapes Go.WideShapes
inductive CPat where
 | mk (kind n i : Int) (s : ByteArray) (at_ line col : Int) (l : List CPat)
namespace CPat
def kind : CPat → Int | .mk kind _ _ _ _ _ _ _ => kind
def n : CPat → Int | .mk _ n _ _ _ _ _ _ => n
def i : CPat → Int | .mk _ _ i _ _ _ _ _ => i
def s : CPat → ByteArray | .mk _ _ _ s _ _ _ _ => s
def at_ : CPat → Int | .mk _ _ _ _ at_ _ _ _ => at_
def line : CPat → Int | .mk _ _ _ _ _ line _ _ => line
def col : CPat → Int | .mk _ _ _ _ _ _ col _ => col
def l : CPat → List CPat | .mk _ _ _ _ _ _ _ l => l
end CPat
namespace CPat
mutual
def d : CPat → List D
 | .mk kind n i s at_ line col l => [.int .u8 kind, .int .i64 n, .int .i64 i, .str s, .int .i64 at_, .int .i64 line, .int .i64 col, .list 8 l.length (dl l)]
def dl : List CPat → List D
 | [] => []
 | t :: r => t.d ++ dl r
end
theorem dl_eq : ∀ l : List CPat, dl l = l.flatMap d
 | [] => by simp [dl]
 | t :: r => by simp [dl, dl_eq r]
mutual
def size : CPat → Nat
 | .mk _ _ _ _ _ _ _ l => 1 + sizes l
def sizes : List CPat → Nat
 | [] => 0
 | t :: r => t.size + sizes r
end
theorem size_mem {t : CPat} {l : List CPat} (h : t ∈ l) : t.size ≤ sizes l := by
 induction l with
 | nil => cases h
 | cons a l ih =>
   simp only [sizes]
   rcases List.mem_cons.1 h with rfl | h
   ·omega
   ·have := ih h; omega
theorem size_eq (t : CPat) : t.size = 1 + sizes t.l := by cases t; simp [size, l]
theorem size_pos (t : CPat) : 1 ≤ t.size := by rw [size_eq]; omega
theorem sizes_len : ∀ l : List CPat, l.length ≤ sizes l
 | [] => by simp
 | t :: l => by have := sizes_len l; have := size_pos t; simp only [sizes, List.length_cons]; omega
theorem sizes_get (l : List CPat) (k : Nat) (h : k < l.length) : l[k].size ≤ sizes l := size_mem (List.getElem_mem h)
mutual
theorem size_wts : ∀ t : CPat, t.size ≤ D.wts t.d
 | .mk kind n i s at_ line col l => by
   have := sizes_wts l
   simp only [size, d, D.wts, D.wt]; omega
theorem sizes_wts : ∀ l : List CPat, sizes l ≤ D.wts (dl l)
 | [] => by simp [sizes]
 | t :: r => by
   have h1 := size_wts t
   have h2 := sizes_wts r
   simp only [sizes, dl, wts_append]; omega
end
theorem d_eq (x : CPat) : x.d = [.int .u8 x.kind, .int .i64 x.n, .int .i64 x.i, .str x.s, .int .i64 x.at_, .int .i64 x.line, .int .i64 x.col, .list 8 x.l.length (x.l.flatMap CPat.d)] := by
 cases x; simp [d, kind, n, i, s, at_, line, col, l, dl_eq]
theorem d_len (x : CPat) : x.d.length = 8 := by cases x; simp [d]
theorem cells {w : World} {B : Nat} {us : List Value} {x : CPat} (h : Rds w B us x.d) : ∃ v7 : Value, us = [.int .u8 x.kind, .int .i64 x.n, .int .i64 x.i, .string x.s, .int .i64 x.at_, .int .i64 x.line, .int .i64 x.col, v7] ∧ Rd w B v7 (.list 8 x.l.length (x.l.flatMap CPat.d)) ∧ (Lit.int .u8 x.kind).wf = true ∧ (Lit.int .i64 x.n).wf = true ∧ (Lit.int .i64 x.i).wf = true ∧ (x.s).size ≤ maxLen ∧ (Lit.int .i64 x.at_).wf = true ∧ (Lit.int .i64 x.line).wf = true ∧ (Lit.int .i64 x.col).wf = true := by
 rw [d_eq] at h
 obtain ⟨v0, u0, rfl, h0, t0⟩ := h.cons_inv
 obtain ⟨rfl, w0⟩ := h0.int_inv
 obtain ⟨v1, u1, rfl, h1, t1⟩ := t0.cons_inv
 obtain ⟨rfl, w1⟩ := h1.int_inv
 obtain ⟨v2, u2, rfl, h2, t2⟩ := t1.cons_inv
 obtain ⟨rfl, w2⟩ := h2.int_inv
 obtain ⟨v3, u3, rfl, h3, t3⟩ := t2.cons_inv
 obtain ⟨rfl, w3⟩ := h3.str_inv
 obtain ⟨v4, u4, rfl, h4, t4⟩ := t3.cons_inv
 obtain ⟨rfl, w4⟩ := h4.int_inv
 obtain ⟨v5, u5, rfl, h5, t5⟩ := t4.cons_inv
 obtain ⟨rfl, w5⟩ := h5.int_inv
 obtain ⟨v6, u6, rfl, h6, t6⟩ := t5.cons_inv
 obtain ⟨rfl, w6⟩ := h6.int_inv
 obtain ⟨v7, u7, rfl, h7, t7⟩ := t6.cons_inv
 obtain rfl := t7.nil_inv
 exact ⟨v7, rfl, h7, w0, w1, w2, w3, w4, w5, w6⟩
end CPat
mutual
inductive Core where
 | mk (kind n i : Int) (s : ByteArray) (at_ line col : Int) (l : List Core) (arms : List CArm)
inductive CArm where
 | mk (p : CPat) (e : Core)
end
namespace Core
def kind : Core → Int | .mk kind _ _ _ _ _ _ _ _ => kind
def n : Core → Int | .mk _ n _ _ _ _ _ _ _ => n
def i : Core → Int | .mk _ _ i _ _ _ _ _ _ => i
def s : Core → ByteArray | .mk _ _ _ s _ _ _ _ _ => s
def at_ : Core → Int | .mk _ _ _ _ at_ _ _ _ _ => at_
def line : Core → Int | .mk _ _ _ _ _ line _ _ _ => line
def col : Core → Int | .mk _ _ _ _ _ _ col _ _ => col
def l : Core → List Core | .mk _ _ _ _ _ _ _ l _ => l
def arms : Core → List CArm | .mk _ _ _ _ _ _ _ _ arms => arms
end Core
def CArm.p : CArm → CPat | .mk p _ => p
def CArm.e : CArm → Core | .mk _ e => e
mutual
def Core.d : Core → List D
 | .mk kind n i s at_ line col l arms => [.int .u8 kind, .int .i64 n, .int .i64 i, .str s, .int .i64 at_, .int .i64 line, .int .i64 col, .list 9 l.length (Core.dl l), .list 17 arms.length (CArm.dl arms)]
def Core.dl : List Core → List D
 | [] => []
 | t :: r => t.d ++ Core.dl r
def CArm.d : CArm → List D
 | .mk p e => p.d ++ e.d
def CArm.dl : List CArm → List D
 | [] => []
 | t :: r => t.d ++ CArm.dl r
end
theorem Core.dl_eq : ∀ l : List Core, Core.dl l = l.flatMap Core.d
 | [] => by simp [Core.dl]
 | t :: r => by simp [Core.dl, Core.dl_eq r]
theorem CArm.dl_eq : ∀ l : List CArm, CArm.dl l = l.flatMap CArm.d
 | [] => by simp [CArm.dl]
 | t :: r => by simp [CArm.dl, CArm.dl_eq r]
mutual
def Core.size : Core → Nat
 | .mk _ _ _ _ _ _ _ l arms => 1 + Core.sizes l + CArm.sizes arms
def Core.sizes : List Core → Nat
 | [] => 0
 | t :: r => t.size + Core.sizes r
def CArm.size : CArm → Nat
 | .mk p e => p.size + e.size
def CArm.sizes : List CArm → Nat
 | [] => 0
 | t :: r => t.size + CArm.sizes r
end
mutual
theorem Core.size_wts : ∀ t : Core, t.size ≤ D.wts t.d
 | .mk kind n i s at_ line col l arms => by
   have := Core.sizes_wts l
   have := CArm.sizes_wts arms
   simp only [Core.size, Core.d, D.wts, D.wt]; omega
theorem Core.sizes_wts : ∀ l : List Core, Core.sizes l ≤ D.wts (Core.dl l)
 | [] => by simp [Core.sizes]
 | t :: r => by
   have h1 := Core.size_wts t
   have h2 := Core.sizes_wts r
   simp only [Core.sizes, Core.dl, wts_append]; omega
theorem CArm.size_wts : ∀ t : CArm, t.size ≤ D.wts t.d
 | .mk p e => by
   have h1 := CPat.size_wts p
   have h2 := Core.size_wts e
   simp only [CArm.size, CArm.d, wts_append]; omega
theorem CArm.sizes_wts : ∀ l : List CArm, CArm.sizes l ≤ D.wts (CArm.dl l)
 | [] => by simp [CArm.sizes]
 | t :: r => by
   have h1 := CArm.size_wts t
   have h2 := CArm.sizes_wts r
   simp only [CArm.sizes, CArm.dl, wts_append]; omega
end
namespace Core
theorem size_mem {t : Core} {l : List Core} (h : t ∈ l) : t.size ≤ sizes l := by
 induction l with
 | nil => cases h
 | cons a l ih =>
   simp only [sizes]
   rcases List.mem_cons.1 h with rfl | h
   ·omega
   ·have := ih h; omega
theorem size_eq (t : Core) : t.size = 1 + sizes t.l + CArm.sizes t.arms := by cases t; simp [size, l, arms]
theorem size_pos (t : Core) : 1 ≤ t.size := by rw [size_eq]; omega
theorem sizes_len : ∀ l : List Core, l.length ≤ sizes l
 | [] => by simp
 | t :: l => by have := sizes_len l; have := size_pos t; simp only [sizes, List.length_cons]; omega
theorem sizes_get (l : List Core) (k : Nat) (h : k < l.length) : l[k].size ≤ sizes l := size_mem (List.getElem_mem h)
theorem d_eq (x : Core) : x.d = [.int .u8 x.kind, .int .i64 x.n, .int .i64 x.i, .str x.s, .int .i64 x.at_, .int .i64 x.line, .int .i64 x.col, .list 9 x.l.length (x.l.flatMap Core.d), .list 17 x.arms.length (x.arms.flatMap CArm.d)] := by
 cases x; simp [d, kind, n, i, s, at_, line, col, l, arms, dl_eq, CArm.dl_eq]
theorem d_len (x : Core) : x.d.length = 9 := by cases x; simp [d]
theorem cells {w : World} {B : Nat} {us : List Value} {x : Core} (h : Rds w B us x.d) : ∃ v7 v8 : Value, us = [.int .u8 x.kind, .int .i64 x.n, .int .i64 x.i, .string x.s, .int .i64 x.at_, .int .i64 x.line, .int .i64 x.col, v7, v8] ∧ Rd w B v7 (.list 9 x.l.length (x.l.flatMap Core.d)) ∧ Rd w B v8 (.list 17 x.arms.length (x.arms.flatMap CArm.d)) ∧ (Lit.int .u8 x.kind).wf = true ∧ (Lit.int .i64 x.n).wf = true ∧ (Lit.int .i64 x.i).wf = true ∧ (x.s).size ≤ maxLen ∧ (Lit.int .i64 x.at_).wf = true ∧ (Lit.int .i64 x.line).wf = true ∧ (Lit.int .i64 x.col).wf = true := by
 rw [d_eq] at h
 obtain ⟨v0, u0, rfl, h0, t0⟩ := h.cons_inv
 obtain ⟨rfl, w0⟩ := h0.int_inv
 obtain ⟨v1, u1, rfl, h1, t1⟩ := t0.cons_inv
 obtain ⟨rfl, w1⟩ := h1.int_inv
 obtain ⟨v2, u2, rfl, h2, t2⟩ := t1.cons_inv
 obtain ⟨rfl, w2⟩ := h2.int_inv
 obtain ⟨v3, u3, rfl, h3, t3⟩ := t2.cons_inv
 obtain ⟨rfl, w3⟩ := h3.str_inv
 obtain ⟨v4, u4, rfl, h4, t4⟩ := t3.cons_inv
 obtain ⟨rfl, w4⟩ := h4.int_inv
 obtain ⟨v5, u5, rfl, h5, t5⟩ := t4.cons_inv
 obtain ⟨rfl, w5⟩ := h5.int_inv
 obtain ⟨v6, u6, rfl, h6, t6⟩ := t5.cons_inv
 obtain ⟨rfl, w6⟩ := h6.int_inv
 obtain ⟨v7, u7, rfl, h7, t7⟩ := t6.cons_inv
 obtain ⟨v8, u8, rfl, h8, t8⟩ := t7.cons_inv
 obtain rfl := t8.nil_inv
 exact ⟨v7, v8, rfl, h7, h8, w0, w1, w2, w3, w4, w5, w6⟩
end Core
namespace CArm
theorem d_eq (x : CArm) : x.d = x.p.d ++ x.e.d := by cases x; simp [d, p, e]
theorem d_len (x : CArm) : x.d.length = 17 := by rw [d_eq, List.length_append, CPat.d_len, Core.d_len]
theorem size_eq (t : CArm) : t.size = t.p.size + t.e.size := by cases t; simp [size, p, e]
theorem size_pos (t : CArm) : 1 ≤ t.size := by rw [size_eq]; have := t.p.size_pos; omega
theorem size_mem {t : CArm} {l : List CArm} (h : t ∈ l) : t.size ≤ sizes l := by
 induction l with
 | nil => cases h
 | cons a l ih =>
   simp only [sizes]
   rcases List.mem_cons.1 h with rfl | h
   ·omega
   ·have := ih h; omega
theorem sizes_len : ∀ l : List CArm, l.length ≤ sizes l
 | [] => by simp
 | t :: l => by have := sizes_len l; have := size_pos t; simp only [sizes, List.length_cons]; omega
theorem sizes_get (l : List CArm) (k : Nat) (h : k < l.length) : l[k].size ≤ sizes l := size_mem (List.getElem_mem h)
theorem cells {w : World} {B : Nat} {us : List Value} {x : CArm} (h : Rds w B us x.d) : ∃ u1 u2 : List Value, us = u1 ++ u2 ∧ Rds w B u1 x.p.d ∧ Rds w B u2 x.e.d := by
 rw [d_eq] at h
 obtain ⟨hl, he⟩ := h
 have h8 := x.p.d_len
 rw [List.length_append] at hl
 refine ⟨us.take 8, us.drop 8, (List.take_append_drop _ _).symm, ⟨by rw [List.length_take]; omega, fun j u d hu hd => ?_⟩, ⟨by rw [List.length_drop]; omega, fun j u d hu hd => ?_⟩⟩
 ·rw [List.getElem?_take] at hu
  split at hu
  ·exact he j u d hu (by rw [List.getElem?_append_left (by omega)]; exact hd)
  ·cases hu
 ·rw [List.getElem?_drop] at hu
  exact he (8 + j) u d hu (by rw [List.getElem?_append_right (by omega)]; rw [h8, Nat.add_sub_cancel_left]; exact hd)
end CArm
theorem has_Pos {ds : List D} (h : Has Tryz.prog 34 ds) : ∃ a b c : Int, ds = [.int .i64 a, .int .i64 b, .int .i64 c] := by
 obtain ⟨he, hp⟩ := h.parts (L := [(3, 0, 1), (3, 1, 1), (3, 2, 1)]) (by kernel_rfl)
 obtain ⟨z0, e0⟩ := (hp _ (List.mem_of_getElem? (show _ = some (3, 0, 1) from (rfl : [(3, 0, 1), (3, 1, 1), (3, 2, 1)][0]? = _)))).int_inv (k := .i64) (by kernel_rfl)
 obtain ⟨z1, e1⟩ := (hp _ (List.mem_of_getElem? (show _ = some (3, 1, 1) from (rfl : [(3, 0, 1), (3, 1, 1), (3, 2, 1)][1]? = _)))).int_inv (k := .i64) (by kernel_rfl)
 obtain ⟨z2, e2⟩ := (hp _ (List.mem_of_getElem? (show _ = some (3, 2, 1) from (rfl : [(3, 0, 1), (3, 1, 1), (3, 2, 1)][2]? = _)))).int_inv (k := .i64) (by kernel_rfl)
 refine ⟨z0, z1, z2, he.trans ?_⟩
 simp only [List.flatMap_cons, List.flatMap_nil, e0, e1, e2]
 rfl
theorem has_CPat_aux : ∀ (N : Nat) (ds : List D), D.wts ds < N → Has Tryz.prog 49 ds → ∃ x : CPat, ds = x.d := by
 intro N
 induction N with
 | zero => intro ds h; omega
 | succ N ih =>
   intro ds hN h
   obtain ⟨he, hp⟩ := h.parts (L := [(5, 0, 1), (3, 1, 1), (2, 2, 1), (9, 3, 1), (34, 4, 3), (47, 7, 1)]) (by kernel_rfl)
   obtain ⟨z0, e0⟩ := (hp _ (List.mem_of_getElem? (show _ = some (5, 0, 1) from (rfl : [(5, 0, 1), (3, 1, 1), (2, 2, 1), (9, 3, 1), (34, 4, 3), (47, 7, 1)][0]? = _)))).int_inv (k := .u8) (by kernel_rfl)
   obtain ⟨z1, e1⟩ := (hp _ (List.mem_of_getElem? (show _ = some (3, 1, 1) from (rfl : [(5, 0, 1), (3, 1, 1), (2, 2, 1), (9, 3, 1), (34, 4, 3), (47, 7, 1)][1]? = _)))).int_inv (k := .i64) (by kernel_rfl)
   obtain ⟨z2, e2⟩ := (hp _ (List.mem_of_getElem? (show _ = some (2, 2, 1) from (rfl : [(5, 0, 1), (3, 1, 1), (2, 2, 1), (9, 3, 1), (34, 4, 3), (47, 7, 1)][2]? = _)))).int_inv (k := .i64) (by kernel_rfl)
   obtain ⟨z3, e3⟩ := (hp _ (List.mem_of_getElem? (show _ = some (9, 3, 1) from (rfl : [(5, 0, 1), (3, 1, 1), (2, 2, 1), (9, 3, 1), (34, 4, 3), (47, 7, 1)][3]? = _)))).str_inv (by kernel_rfl)
   obtain ⟨z4, z5, z6, e4⟩ := has_Pos (hp _ (List.mem_of_getElem? (show _ = some (34, 4, 3) from (rfl : [(5, 0, 1), (3, 1, 1), (2, 2, 1), (9, 3, 1), (34, 4, 3), (47, 7, 1)][4]? = _))))
   have hlt : D.wts ((ds.drop 7).take 1) ≤ N := by have := wts_take_drop ds 7 1; omega
   obtain ⟨z7, e5⟩ := (hp _ (List.mem_of_getElem? (show _ = some (47, 7, 1) from (rfl : [(5, 0, 1), (3, 1, 1), (2, 2, 1), (9, 3, 1), (34, 4, 3), (47, 7, 1)][5]? = _)))).list_of (e := 49) (k := 8) (by kernel_rfl) (by kernel_rfl) CPat.d_len (fun c hc h => ih c (by simp only at hc; omega) h)
   refine ⟨.mk z0 z1 z2 z3 z4 z5 z6 z7, he.trans ?_⟩
   simp only [List.flatMap_cons, List.flatMap_nil, e0, e1, e2, e3, e4, e5]
   simp [CPat.d, CPat.dl_eq]
theorem has_CPat {ds : List D} (h : Has Tryz.prog 49 ds) : ∃ x : CPat, ds = x.d := has_CPat_aux _ ds (Nat.lt_succ_self _) h
theorem has_Core_aux : ∀ (N : Nat) (ds : List D), D.wts ds < N → Has Tryz.prog 38 ds → ∃ x : Core, ds = x.d := by
 intro N
 induction N with
 | zero => intro ds h; omega
 | succ N ih =>
   intro ds hN h
   obtain ⟨he, hp⟩ := h.parts (L := [(5, 0, 1), (3, 1, 1), (2, 2, 1), (9, 3, 1), (34, 4, 3), (35, 7, 1), (36, 8, 1)]) (by kernel_rfl)
   obtain ⟨z0, e0⟩ := (hp _ (List.mem_of_getElem? (show _ = some (5, 0, 1) from (rfl : [(5, 0, 1), (3, 1, 1), (2, 2, 1), (9, 3, 1), (34, 4, 3), (35, 7, 1), (36, 8, 1)][0]? = _)))).int_inv (k := .u8) (by kernel_rfl)
   obtain ⟨z1, e1⟩ := (hp _ (List.mem_of_getElem? (show _ = some (3, 1, 1) from (rfl : [(5, 0, 1), (3, 1, 1), (2, 2, 1), (9, 3, 1), (34, 4, 3), (35, 7, 1), (36, 8, 1)][1]? = _)))).int_inv (k := .i64) (by kernel_rfl)
   obtain ⟨z2, e2⟩ := (hp _ (List.mem_of_getElem? (show _ = some (2, 2, 1) from (rfl : [(5, 0, 1), (3, 1, 1), (2, 2, 1), (9, 3, 1), (34, 4, 3), (35, 7, 1), (36, 8, 1)][2]? = _)))).int_inv (k := .i64) (by kernel_rfl)
   obtain ⟨z3, e3⟩ := (hp _ (List.mem_of_getElem? (show _ = some (9, 3, 1) from (rfl : [(5, 0, 1), (3, 1, 1), (2, 2, 1), (9, 3, 1), (34, 4, 3), (35, 7, 1), (36, 8, 1)][3]? = _)))).str_inv (by kernel_rfl)
   obtain ⟨z4, z5, z6, e4⟩ := has_Pos (hp _ (List.mem_of_getElem? (show _ = some (34, 4, 3) from (rfl : [(5, 0, 1), (3, 1, 1), (2, 2, 1), (9, 3, 1), (34, 4, 3), (35, 7, 1), (36, 8, 1)][4]? = _))))
   have hlt : D.wts ((ds.drop 7).take 1) ≤ N := by have := wts_take_drop ds 7 1; omega
   have hlt2 : D.wts ((ds.drop 8).take 1) ≤ N := by have := wts_take_drop ds 8 1; omega
   obtain ⟨z7, e5⟩ := (hp _ (List.mem_of_getElem? (show _ = some (35, 7, 1) from (rfl : [(5, 0, 1), (3, 1, 1), (2, 2, 1), (9, 3, 1), (34, 4, 3), (35, 7, 1), (36, 8, 1)][5]? = _)))).list_of (e := 38) (k := 9) (by kernel_rfl) (by kernel_rfl) Core.d_len (fun c hc h => ih c (by simp only at hc; omega) h)
   obtain ⟨z8, e6⟩ := (hp _ (List.mem_of_getElem? (show _ = some (36, 8, 1) from (rfl : [(5, 0, 1), (3, 1, 1), (2, 2, 1), (9, 3, 1), (34, 4, 3), (35, 7, 1), (36, 8, 1)][6]? = _)))).list_of (e := 51) (k := 17) (by kernel_rfl) (by kernel_rfl) CArm.d_len (fun c hc h => by
    simp only at hc
    obtain ⟨ae, ap⟩ := h.parts (L := [(49, 0, 8), (38, 8, 9)]) (by kernel_rfl)
    obtain ⟨y0, a0⟩ := has_CPat (ap _ (List.mem_of_getElem? (show _ = some (49, 0, 8) from (rfl : [(49, 0, 8), (38, 8, 9)][0]? = _))))
    have g1 := ap _ (List.mem_of_getElem? (show _ = some (38, 8, 9) from (rfl : [(49, 0, 8), (38, 8, 9)][1]? = _)))
    obtain ⟨y1, a1⟩ := ih _ (by have := wts_take_drop c 8 9; simp only; omega) g1
    refine ⟨.mk y0 y1, ae.trans ?_⟩
    simp only [List.flatMap_cons, List.flatMap_nil, a0, a1]
    simp [CArm.d])
   refine ⟨.mk z0 z1 z2 z3 z4 z5 z6 z7 z8, he.trans ?_⟩
   simp only [List.flatMap_cons, List.flatMap_nil, e0, e1, e2, e3, e4, e5, e6]
   simp [Core.d, Core.dl_eq, CArm.dl_eq]
theorem has_Core {ds : List D} (h : Has Tryz.prog 38 ds) : ∃ x : Core, ds = x.d := has_Core_aux _ ds (Nat.lt_succ_self _) h
structure Top where
 name : ByteArray
 rc : Bool
 e : Core
def Top.d (x : Top) : List D := .str x.name :: .bool x.rc :: x.e.d
theorem Top.d_len (x : Top) : x.d.length = 11 := by simp [Top.d, Core.d_len]
theorem Top.cells {w : World} {B : Nat} {us : List Value} {x : Top} (h : Rds w B us x.d) : ∃ u1 : List Value, us = .string x.name :: .bool x.rc :: u1 ∧ Rds w B u1 x.e.d ∧ (x.name).size ≤ maxLen := by
 unfold Top.d at h
 obtain ⟨v0, u0, rfl, h0, t0⟩ := h.cons_inv
 obtain ⟨rfl, w0⟩ := h0.str_inv
 obtain ⟨v1, u1, rfl, h1, t1⟩ := t0.cons_inv
 obtain rfl := h1.bool_inv
 exact ⟨u1, rfl, t1, w0⟩
theorem has_Top {ds : List D} (h : Has Tryz.prog 40 ds) : ∃ x : Top, ds = x.d := by
 obtain ⟨he, hp⟩ := h.parts (L := [(9, 0, 1), (4, 1, 1), (38, 2, 9)]) (by kernel_rfl)
 obtain ⟨z0, e0⟩ := (hp _ (List.mem_of_getElem? (show _ = some (9, 0, 1) from (rfl : [(9, 0, 1), (4, 1, 1), (38, 2, 9)][0]? = _)))).str_inv (by kernel_rfl)
 obtain ⟨z1, e1⟩ := (hp _ (List.mem_of_getElem? (show _ = some (4, 1, 1) from (rfl : [(9, 0, 1), (4, 1, 1), (38, 2, 9)][1]? = _)))).bool_inv (by kernel_rfl)
 obtain ⟨z2, e2⟩ := has_Core (hp _ (List.mem_of_getElem? (show _ = some (38, 2, 9) from (rfl : [(9, 0, 1), (4, 1, 1), (38, 2, 9)][2]? = _))))
 refine ⟨⟨z0, z1, z2⟩, he.trans ?_⟩
 simp only [List.flatMap_cons, List.flatMap_nil, e0, e1, e2]
 simp [Top.d]
structure Prog where
 sig : Sig
 tops : List Top
 vars : Int
def Prog.d (x : Prog) : List D := x.sig.d ++ [.list 11 x.tops.length (x.tops.flatMap Top.d), .int .i64 x.vars]
theorem Prog.d_len (x : Prog) : x.d.length = 4 := rfl
theorem Prog.cells {w : World} {B : Nat} {us : List Value} {x : Prog} (h : Rds w B us x.d) : ∃ v0 v1 v2 : Value, us = [v0, v1, v2, .int .i64 x.vars] ∧ Rds w B [v0, v1] x.sig.d ∧ Rd w B v2 (.list 11 x.tops.length (x.tops.flatMap Top.d)) ∧ (Lit.int .i64 x.vars).wf = true := by
 unfold Prog.d Sig.d at h
 obtain ⟨v0, u0, rfl, h0, t0⟩ := h.cons_inv
 obtain ⟨v1, u1, rfl, h1, t1⟩ := t0.cons_inv
 obtain ⟨v2, u2, rfl, h2, t2⟩ := t1.cons_inv
 obtain ⟨v3, u3, rfl, h3, t3⟩ := t2.cons_inv
 obtain ⟨rfl, w3⟩ := h3.int_inv
 obtain rfl := t3.nil_inv
 exact ⟨v0, v1, v2, rfl, Rds.cons h0 (Rds.cons h1 Rds.nil), h2, w3⟩
theorem has_Prog {ds : List D} (h : Has Tryz.prog 28 ds) : ∃ x : Prog, ds = x.d := by
 obtain ⟨he, hp⟩ := h.parts (L := [(25, 0, 2), (26, 2, 1), (3, 3, 1)]) (by kernel_rfl)
 obtain ⟨z0, e0⟩ := has_Sig (hp _ (List.mem_of_getElem? (show _ = some (25, 0, 2) from (rfl : [(25, 0, 2), (26, 2, 1), (3, 3, 1)][0]? = _))))
 obtain ⟨z1, e1⟩ := (hp _ (List.mem_of_getElem? (show _ = some (26, 2, 1) from (rfl : [(25, 0, 2), (26, 2, 1), (3, 3, 1)][1]? = _)))).list_of (e := 40) (k := 11) (by kernel_rfl) (by kernel_rfl) Top.d_len (fun c _ h => has_Top h)
 obtain ⟨z2, e2⟩ := (hp _ (List.mem_of_getElem? (show _ = some (3, 3, 1) from (rfl : [(25, 0, 2), (26, 2, 1), (3, 3, 1)][2]? = _)))).int_inv (k := .i64) (by kernel_rfl)
 refine ⟨⟨z0, z1, z2⟩, he.trans ?_⟩
 simp only [List.flatMap_cons, List.flatMap_nil, e0, e1, e2]
 rfl
end Go.Proofs.YtdhodaefgliphaaGreatDoor
