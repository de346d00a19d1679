/- Small laws about worlds, rows of cells and values, of no program. -/
import Derived.WalkKit
import Derived.WalkSmall
import Derived.OneCell
import Derived.Lib.Hide
set_option linter.unusedVariables false
set_option linter.unusedSimpArgs false
namespace Go.Proofs.YtpndkjjkdeingaaGreatDoor
open Go.RowKit

/-- the cells of a block that has just been laid -/
theorem cells_new (w : World) (b : Nat) (news : List Value) (t : TypeId) (hb : b = w.heap.size) :
    ∀ j u, news[j]? = some u → (w.alloc (.cells news.toArray t)).cell? ((⟨b, 0, none⟩ : Addr).add j) = some u := by
  intro j u hj
  subst hb
  have hadd : (⟨w.heap.size, 0, none⟩ : Addr).add j = ⟨w.heap.size, j, none⟩ := by unfold Addr.add; split <;> simp_all
  rw [hadd, cell_of_row _ w.heap.size j news.toArray t (0, 0) (heap_alloc_new w _)]
  simpa using hj

/-- an owned row stands in every later world that keeps its block -/
theorem own_keep {w w' : World} {base : Nat} {e : TypeId} {size : Nat} {v : Value} {n : Nat} {xs : List Value} (h : w.ownsRow base e size v n xs)
    (hk : ∀ g, v.ownBlock = some g → w'.heap[g]? = w.heap[g]?) : w'.ownsRow base e size v n xs := by
  refine ⟨h.1, ?_⟩
  rcases h.2 with hn | ⟨g, cap, cur, rfl, hb, hgg, rest⟩
  · exact .inl hn
  · exact .inr ⟨g, cap, cur, rfl, hb, by rw [hk g rfl]; exact hgg, rest⟩

theorem own_below {w w' : World} {B base : Nat} {e : TypeId} {size : Nat} {v : Value} {n : Nat} {xs : List Value} (h : w.ownsRow base e size v n xs)
    (hb : Below B w w') (hB : w.heap.size ≤ B) : w'.ownsRow base e size v n xs :=
  own_keep h fun g hg => hb.block g (by have := (h.lt g hg).2; omega)

theorem own_base {w : World} {base base' : Nat} {e : TypeId} {size : Nat} {v : Value} {n : Nat} {xs : List Value} (h : w.ownsRow base e size v n xs)
    (hb : base' ≤ base) : w.ownsRow base' e size v n xs := by
  refine ⟨h.1, ?_⟩
  rcases h.2 with hn | ⟨g, cap, cur, rfl, hbg, rest⟩
  · exact .inl hn
  · exact .inr ⟨g, cap, cur, rfl, by omega, rest⟩

theorem own_slice {w : World} {base : Nat} {e : TypeId} {size : Nat} {v : Value} {n : Nat} {xs : List Value} (h : w.ownsRow base e size v n xs) : ∃ a cap, v = .slice a n cap := by
  rcases h.2 with ⟨rfl, rfl⟩ | ⟨g, cap, cur, rfl, _⟩
  · exact ⟨none, 0, rfl⟩
  · exact ⟨_, cap, rfl⟩

/-- what a callee leaves, behind what its caller has done -/
theorem below_call {w W W' : World} (h : Below w.heap.size w W) (hb : Below W.heap.size W W') : Below w.heap.size w W' := h.trans (hb.mono h.size)

/-- a block reads on as it read -/
theorem block_below {w w' : World} {B k : Nat} {o : Obj} (hb : Below B w w') (h : w.heap[k]? = some o) (hk : k < B) : w'.heap[k]? = some o := (hb.block k hk).trans h

theorem lt_of_heap {w : World} {b : Nat} {o : Obj} (h : w.heap[b]? = some o) : b < w.heap.size := (Array.getElem?_eq_some_iff.1 h).1

/-- WHAT A SLICE READS AS: n elements of some size, whose cells one behind the other are xs; the block lies below B. -/
def Row (w : World) (B : Nat) (size : Nat) (v : Value) (n : Nat) (xs : List Value) : Prop :=
  xs.length = n * size ∧ n ≤ maxLen ∧
  ((n = 0 ∧ ∃ a c, v = .slice a 0 c) ∨
   ∃ b off cap, v = .slice (some ⟨b, off, none⟩) n cap ∧ b < B ∧ n ≤ cap ∧ ∀ j u, xs[j]? = some u → w.cell? ⟨b, off + j, none⟩ = some u)

theorem Row.below {w w' : World} {B size : Nat} {v : Value} {n : Nat} {xs : List Value} (h : Row w B size v n xs) (hb : Below B w w') : Row w' B size v n xs := by
  obtain ⟨h1, h2, h3⟩ := h
  refine ⟨h1, h2, ?_⟩
  rcases h3 with hn | ⟨b, off, cap, rfl, hB, hc, hx⟩
  · exact .inl hn
  · exact .inr ⟨b, off, cap, rfl, hB, hc, fun j u hj => (hb.cell (p := ⟨b, off + j, none⟩) hB).trans (hx j u hj)⟩

theorem Row.mono {w : World} {B B' size : Nat} {v : Value} {n : Nat} {xs : List Value} (h : Row w B size v n xs) (hB : B ≤ B') : Row w B' size v n xs := by
  obtain ⟨h1, h2, h3⟩ := h
  refine ⟨h1, h2, ?_⟩
  rcases h3 with hn | ⟨b, off, cap, rfl, hb, hc, hx⟩
  · exact .inl hn
  · exact .inr ⟨b, off, cap, rfl, by omega, hc, hx⟩

theorem Row.own {w : World} {B base : Nat} {e : TypeId} {size : Nat} {v : Value} {n : Nat} {xs : List Value} (h : w.ownsRow base e size v n xs) (hB : w.heap.size ≤ B) : Row w B size v n xs := by
  rcases h.2 with ⟨rfl, rfl⟩ | ⟨g, cap, cur, rfl, hb, hg, hn, hc, hs, ht⟩
  · exact ⟨h.1, Nat.zero_le _, .inl ⟨rfl, _, _, rfl⟩⟩
  · refine ⟨h.1, by omega, .inr ⟨g, 0, cap, rfl, by have := lt_of_heap hg; omega, hn, fun j u hj => ?_⟩⟩
    have := h.cells (g := g) rfl j u hj
    have hadd : (⟨g, 0, none⟩ : Addr).add j = ⟨g, 0 + j, none⟩ := by unfold Addr.add; split <;> simp_all
    rwa [hadd] at this
theorem Row.slice {w : World} {B size : Nat} {v : Value} {n : Nat} {xs : List Value} (h : Row w B size v n xs) : ∃ a cap, v = .slice a n cap := by
  rcases h.2.2 with ⟨rfl, a, c, rfl⟩ | ⟨b, off, cap, rfl, _⟩
  · exact ⟨a, c, rfl⟩
  · exact ⟨_, _, rfl⟩

/-- a block whose cells are known, written whole -/
def Blk (w : World) (b : Nat) (cs : Array Value) (t : TypeId) : Prop := w.heap[b]? = some (.cells cs t (0, 0))

theorem Blk.cell {w : World} {b : Nat} {cs : Array Value} {t : TypeId} (h : Blk w b cs t) (j : Nat) : w.cell? ⟨b, j, none⟩ = cs[j]? := cell_of_row w b j cs t (0, 0) h
theorem Blk.free {w : World} {b : Nat} {cs : Array Value} {t : TypeId} (h : Blk w b cs t) (j : Nat) : w.frozen? ⟨b, j, none⟩ = false := by
  unfold Blk at h
  simp [World.frozen?, h]
theorem Blk.lt {w : World} {b : Nat} {cs : Array Value} {t : TypeId} (h : Blk w b cs t) : b < w.heap.size := lt_of_heap h
theorem Blk.set {w : World} {b : Nat} {cs : Array Value} {t : TypeId} (h : Blk w b cs t) (j : Nat) (v : Value) : Blk (w.setCell ⟨b, j, none⟩ v) b (cs.setIfInBounds j v) t := by
  have hlt := h.lt
  unfold Blk at h ⊢
  have h' : w.heap[b] = .cells cs t (0, 0) := by simpa [Array.getElem?_eq_getElem hlt] using h
  show (w.heap.modify b _)[b]? = _
  rw [Array.getElem?_eq_getElem (by simpa using hlt), Array.getElem_modify_self, h']
  rfl
theorem Blk.setOther {w : World} {b : Nat} {cs : Array Value} {t : TypeId} (h : Blk w b cs t) {a : Addr} (ha : b ≠ a.block) (v : Value) : Blk (w.setCell a v) b cs t := by
  unfold Blk at h ⊢
  rw [Below.heap_setCell _ _ _ _ ha]; exact h
theorem Blk.alloc {w : World} {b : Nat} {cs : Array Value} {t : TypeId} (h : Blk w b cs t) (o : Obj) : Blk (w.alloc o) b cs t := by
  have := h.lt
  unfold Blk at h ⊢
  rw [Below.heap_alloc _ _ _ this]; exact h
theorem Blk.below {w w' : World} {b B : Nat} {cs : Array Value} {t : TypeId} (h : Blk w b cs t) (hb : Below B w w') (hB : b < B) : Blk w' b cs t := block_below hb h hB
theorem Blk.new (w : World) (b : Nat) (cs : Array Value) (t : TypeId) (hb : b = w.heap.size) : Blk (w.alloc (.cells cs t)) b cs t := by subst hb; exact heap_alloc_new w _
theorem Blk.iterAt {w : World} {b k : Nat} {cs : Array Value} {t : TypeId} (h : Blk w b cs t) (hk : b ≠ k) (s : ByteArray) (p : Nat) : Blk (w.iterAt k s p) b cs t := by
  unfold Blk at h ⊢
  rw [Lib.iterAt_other _ _ _ _ _ hk]; exact h
theorem Blk.drew {w : World} {b : Nat} {cs : Array Value} {t : TypeId} (h : Blk w b cs t) : Blk w.drew b cs t := h
theorem own_drew {w : World} {base : Nat} {e : TypeId} {size : Nat} {v : Value} {n : Nat} {xs : List Value} (h : w.ownsRow base e size v n xs) : w.drew.ownsRow base e size v n xs := h
theorem Blk.of {w w' : World} {b : Nat} {cs : Array Value} {t : TypeId} (h : Blk w b cs t) (hk : w'.heap[b]? = w.heap[b]?) : Blk w' b cs t := hk.trans h
/-- draws turn no block -/
theorem Below.drewN {B : Nat} {a w : World} (h : Below B a w) (n : Nat) : Below B a (w.drewN n) := ⟨h.os, h.tape, h.output, h.size, h.block⟩

/-- an old cell past new blocks -/
theorem cell_al1 {w : World} {p : Addr} {u : Value} (h : w.cell? p = some u) (hb : p.block < w.heap.size) (o1 : Obj) : (w.alloc o1).cell? p = some u :=
  (((Below.refl _ _).alloc (Nat.le_refl _) o1).cell hb).trans h
theorem cell_al2 {w : World} {p : Addr} {u : Value} (h : w.cell? p = some u) (hb : p.block < w.heap.size) (o1 o2 : Obj) : ((w.alloc o1).alloc o2).cell? p = some u :=
  cell_al1 (cell_al1 h hb o1) (by simp; omega) o2
theorem cell_al3 {w : World} {p : Addr} {u : Value} (h : w.cell? p = some u) (hb : p.block < w.heap.size) (o1 o2 o3 : Obj) : (((w.alloc o1).alloc o2).alloc o3).cell? p = some u :=
  cell_al1 (cell_al2 h hb o1 o2) (by simp; omega) o3
end Go.Proofs.YtpndkjjkdeingaaGreatDoor
