/- A verified evaluator, part B: memories up to the names of blocks; what an operation does to one, it does to the other. Of no program. -/
import Derived.Test.YthnmadbfebjpkaaGreatDoorSimA
namespace Go.Proofs.YthnmadbfebjpkaaGreatDoor.Sim
open Go Go.RowKit

structure ABk where
  o : Obj
  fam : Bool
  ro : Bool
structure AW where
  heap : Tr ABk
  next : Nat
def bits : Nat := 30
def AW.put (A : AW) (b : Nat) (x : Option ABk) : AW := { A with heap := A.heap.set bits b x }
def AW.add (A : AW) (x : ABk) : AW := { heap := A.heap.set bits A.next (some x), next := A.next + 1 }
def AW.cell? (A : AW) (a : Addr) : Option Value :=
  match A.heap.get a.block with
  | some ⟨.cells c _ _, _, _⟩ => bif a.spot.isSome then none else c[a.off]?
  | _ => none
def AW.store (A : AW) (a : Addr) (v : Value) : Option AW :=
  match A.heap.get a.block with
  | some ⟨.cells c e f, fam, false⟩ => bif a.spot.isSome || !Nat.blt a.off c.size then none else some (A.put a.block (some ⟨.cells (c.setIfInBounds a.off v) e f, fam, false⟩))
  | _ => none
def AW.room (A : AW) : Bool := Nat.blt (A.next + 2) (2 ^ bits)

/-- a map's entry -/
def ER (ρ : Ren) (e e' : MapEntry) : Prop := VR ρ e.key e'.key ∧ VR ρ e.val e'.val ∧ e.born = e'.born
theorem ER.mono {ρ ρ' : Ren} (hle : ρ.le ρ') {e e' : MapEntry} (h : ER ρ e e') : ER ρ' e e' := ⟨h.1.mono hle, h.2.1.mono hle, h.2.2⟩
def MR (ρ : Ren) (m m' : Option Nat) : Prop := (m = none ∧ m' = none) ∨ ∃ b i, m = some b ∧ ρ b = some i ∧ m' = some i.g
theorem MR.mono {ρ ρ' : Ren} (hle : ρ.le ρ') {m m' : Option Nat} (h : MR ρ m m') : MR ρ' m m' := by
  rcases h with h | ⟨b, i, h1, h2, h3⟩
  · exact .inl h
  · exact .inr ⟨b, i, h1, hle _ _ h2, h3⟩

/-- objects that are one -/
inductive OR (P : Program) (ρ : Ren) (i : Info) : ABk → Obj → Prop
  | exact {c c' : Array Value} {e : TypeId} {f : Nat × Nat} {r : Bool} (hro : i.ro = r) (hl : i.loose = false) (hr : AR ρ c c') (hf : f = (0, 0)) : OR P ρ i ⟨.cells c e (0, 0), false, r⟩ (.cells c' e f)
  | loose {c c' : Array Value} {e : TypeId} {f : Nat × Nat} {r : Bool} (hro : i.ro = r) (hl : i.loose = true) (hs : i.csz = c'.size) (hle : c.size ≤ c'.size) (hr : ∀ (j : Nat) (v : Value), c[j]? = some v → ∃ v', c'[j]? = some v' ∧ VR ρ v v') (hf : f = (0, 0))
      (he : ∃ t, P.info? e = some t ∧ t.size = i.esz) : OR P ρ i ⟨.cells c e (0, 0), true, r⟩ (.cells c' e f)
  | tab {c c' : Array Value} {e e' : TypeId} {f : Nat × Nat} (hro : i.ro = true) (hl : i.loose = false) (hr : AR ρ c c') : OR P ρ i ⟨.cells c e (0, 0), false, true⟩ (.cells c' e' f)
  | map {es es' : Array MapEntry} {k : Nat} {r : Bool} (hro : i.ro = r) (hs : es.size = es'.size) (hr : ∀ (j : Nat) (e e' : MapEntry), es[j]? = some e → es'[j]? = some e' → ER ρ e e') : OR P ρ i ⟨.map es k, false, r⟩ (.map es' k)
  | siter {r : Bool} (hro : i.ro = r) (s : ByteArray) (p : Nat) : OR P ρ i ⟨.stringIter s p, false, r⟩ (.stringIter s p)
  | loop {l l' : Loop} {r : Bool} (hro : i.ro = r) (hs : l.state = l'.state) (hp : l.pending = l'.pending) (ht : AR ρ l.tmps l'.tmps) (hps : l.params = l'.params) (ha : l.assign = l'.assign) (hb : l.body = l'.body) : OR P ρ i ⟨.loop l, false, r⟩ (.loop l')
  | miter {m m' : Option Nat} {r : Bool} (hro : i.ro = r) (h : MR ρ m m') (a : Nat) (b : Array Nat) (c : Nat) : OR P ρ i ⟨.mapIter m a b c, false, r⟩ (.mapIter m' a b c)
theorem OR.mono {P : Program} {ρ ρ' : Ren} (hle : ρ.le ρ') {i : Info} {x : ABk} {o : Obj} (h : OR P ρ i x o) : OR P ρ' i x o := by
  cases h with
  | exact hro hl hr hf => exact .exact hro hl (hr.mono hle) hf
  | tab hro hl hr => exact .tab hro hl (hr.mono hle)
  | loose hro hl hs hc hr hf he => exact .loose hro hl hs hc (fun j v hv => let ⟨v', h1, h2⟩ := hr j v hv; ⟨v', h1, h2.mono hle⟩) hf he
  | map hro hs hr => exact .map hro hs (fun j e e' h1 h2 => (hr j e e' h1 h2).mono hle)
  | siter hro s p => exact .siter hro s p
  | loop hro hs hp ht hps ha hb => exact .loop hro hs hp (ht.mono hle) hps ha hb
  | miter hro h a b c => exact .miter hro (h.mono hle) a b c

/-- where a walk began, and the names that it must not give, with what they hold -/
structure Base where
  w : World
  Γ : Nat → ABk → Prop
  gl : Nat → Bool
  rd : Option Nat
  mks : List Nat
instance : Inhabited Base := ⟨⟨default, fun _ _ => False, fun _ => false, none, []⟩⟩
/-- the same beginning, other names held -/
def Base.but (w0 : Base) (Γ : Nat → ABk → Prop) : Base := ⟨w0.w, Γ, w0.gl, w0.rd, w0.mks⟩
/-- .. in a round of a loop, or in none -/
def Base.at (w0 : Base) (r : Option Nat) : Base := ⟨w0.w, w0.Γ, w0.gl, r, w0.mks⟩
/-- .. with these blocks of deferred calls -/
def Base.marked (w0 : Base) (M : List Nat) : Base := ⟨w0.w, w0.Γ, w0.gl, w0.rd, M⟩
def Base.F (w0 : Base) : Fence := { Fence.wide with round := w0.rd }
/-- blocks of deferred calls, none of which was deferred: nobody names them -/
def MkR (M : List Nat) (B : Nat) (ρ : Ren) (A : AW) (w : World) : Prop :=
  M.Nodup ∧ ∀ r, r ∈ M → B ≤ r ∧ w.heap[r]? = some (.deferred (some [])) ∧ ∀ b x i, A.heap.get b = some x → ρ b = some i → i.g ≠ r
/-- the world stands as the evaluator's does, but for blocks of the evaluator's that it has not made yet; below block B it is as it was -/
structure SR (P : Program) (B : Nat) (w0 : Base) (ρ : Ren) (A : AW) (w : World) : Prop where
  below : Below B w0.w w
  low : B ≤ w0.w.heap.size
  dom : ∀ b i, ρ b = some i → b < A.next
  room : A.next + 1 < 2 ^ bits
  lt : ∀ b x, A.heap.get b = some x → b < A.next
  off : ∀ b x, w0.Γ b x → ρ b = none ∧ A.heap.get b = some x
  blk : ∀ b x i, A.heap.get b = some x → ρ b = some i → (i.ro = true ∨ B ≤ i.g) ∧ ∃ o', w.heap[i.g]? = some o' ∧ OR P ρ i x o'
  apart : ∀ b c x y i j, A.heap.get b = some x → A.heap.get c = some y → ρ b = some i → ρ c = some j → i.g = j.g → b = c
  glo : ∀ g, w0.gl g = true → ∃ i, ρ g = some i ∧ i.g = g
  marks : MkR w0.mks B ρ A w

section
variable {P : Program} {B : Nat} {w0 : Base} {ρ : Ren} {A : AW} {w : World}
theorem SR.at (h : SR P B w0 ρ A w) (r : Option Nat) : SR P B (w0.at r) ρ A w := ⟨h.below, h.low, h.dom, h.room, h.lt, h.off, h.blk, h.apart, h.glo, h.marks⟩
theorem SR.mkOld (h : SR P B w0 ρ A w) {r : Nat} (hr : r ∈ w0.mks) : r < w.heap.size := (Array.getElem?_eq_some_iff.1 (h.marks.2 r hr).2.1).1
theorem SR.mkNew (h : SR P B w0 ρ A w) : ∀ r, r ∈ w0.mks → r ≠ w.heap.size := fun r hr => Nat.ne_of_lt (h.mkOld hr)
theorem put_get (h : A.next + 1 < 2 ^ bits) {b : Nat} (hb : b < A.next) (x : Option ABk) (c : Nat) : (A.put b x).heap.get c = if c = b then x else A.heap.get c :=
  Tr.get_set bits A.heap b c x (by omega)
theorem add_get (h : A.next + 1 < 2 ^ bits) (x : ABk) (c : Nat) : (A.add x).heap.get c = if c = A.next then some x else A.heap.get c :=
  Tr.get_set bits A.heap A.next c (some x) (by omega)
theorem SR.cell (h : SR P B w0 ρ A w) {b o : Nat} {i : Info} (hi : ρ b = some i) {v : Value} (hv : A.cell? ⟨b, o, none⟩ = some v) :
    ∃ v', w.cell? ⟨i.g, o, none⟩ = some v' ∧ VR ρ v v' := by
  unfold AW.cell? at hv
  simp only [Option.isSome_none, cond_false] at hv
  cases hb : A.heap.get b with
  | none => rw [hb] at hv; cases hv
  | some x =>
    rw [hb] at hv
    obtain ⟨_, o', ho, hor⟩ := h.blk b x i hb hi
    cases hor with
    | exact hro hl hr hf =>
      obtain ⟨v', h1, h2⟩ := hr.at hv
      exact ⟨v', by simp [World.cell?, ho, h1], h2⟩
    | tab hro hl hr =>
      obtain ⟨v', h1, h2⟩ := hr.at hv
      exact ⟨v', by simp [World.cell?, ho, h1], h2⟩
    | loose hro hl hs hc hr hf he =>
      obtain ⟨v', h1, h2⟩ := hr _ _ hv
      exact ⟨v', by simp [World.cell?, ho, h1], h2⟩
    | map => cases hv
    | siter => cases hv
    | loop => cases hv
    | miter => cases hv

/-- a block is another one, of the same name -/
theorem SR.change (h : SR P B w0 ρ A w) {b : Nat} {x : ABk} {i : Info} (hx : A.heap.get b = some x) (hi : ρ b = some i) (hro : i.ro = false) {y : ABk} {o' : Obj} (hor : OR P ρ i y o')
    {w' : World} (hos : w'.os = w.os) (htp : w'.tape = w.tape) (hout : w'.output = w.output) (hsz : w'.heap.size = w.heap.size)
    (hg : w'.heap[i.g]? = some o') (hk : ∀ k, k ≠ i.g → w'.heap[k]? = w.heap[k]?) : SR P B w0 ρ (A.put b (some y)) w' := by
  have hb : b < A.next := h.dom b i hi
  have hB : B ≤ i.g := by
    obtain ⟨hB, _⟩ := h.blk b x i hx hi
    rcases hB with hB | hB
    · rw [hro] at hB; cases hB
    · exact hB
  refine ⟨⟨hos.trans h.below.os, htp.trans h.below.tape, hout.trans h.below.output, by rw [hsz]; exact h.below.size, fun k hk' => (hk k (by omega)).trans (h.below.block k hk')⟩, h.low, h.dom, h.room, fun c z hz => ?_, fun c z hc => ⟨(h.off c z hc).1, ?_⟩, fun c z j hz hj => ?_, fun c d z z' j j' hz hz' hj hj' he => ?_, h.glo, ⟨h.marks.1, fun r hr => ?_⟩⟩
  · rw [put_get h.room hb] at hz
    split at hz
    · rename_i hc; subst hc; exact hb
    · exact h.lt c z hz
  · rw [put_get h.room hb, if_neg (by intro e; subst e; rw [(h.off c z hc).1] at hi; cases hi)]
    exact (h.off c z hc).2
  · rw [put_get h.room hb] at hz
    split at hz
    · rename_i hc
      subst hc
      injection hz with hz; subst hz
      rw [hi] at hj; injection hj with hj; subst hj
      exact ⟨.inr hB, o', hg, hor⟩
    · rename_i hc
      obtain ⟨hBj, oj, hoj, horj⟩ := h.blk c z j hz hj
      exact ⟨hBj, oj, by rw [hk j.g (fun e => hc (h.apart c b z x j i hz hx hj hi e))]; exact hoj, horj⟩
  · rw [put_get h.room hb] at hz hz'
    have hl : ∀ c z, (if c = b then some y else A.heap.get c) = some z → ∃ z, A.heap.get c = some z := by
      intro c z hz
      split at hz
      · rename_i hc; subst hc; exact ⟨x, hx⟩
      · exact ⟨z, hz⟩
    obtain ⟨u, hu⟩ := hl c z hz
    obtain ⟨u', hu'⟩ := hl d z' hz'
    exact h.apart c d u u' j j' hu hu' hj hj' he
  · obtain ⟨m1, m2, m3⟩ := h.marks.2 r hr
    refine ⟨m1, (hk r (fun e => m3 b x i hx hi e.symm)).trans m2, fun c z j hz hj => ?_⟩
    rw [put_get h.room hb] at hz
    split at hz
    · rename_i hc; subst hc; exact m3 c x j hx hj
    · exact m3 c z j hz hj

/-- .. or is gone -/
theorem SR.kill (h : SR P B w0 ρ A w) {b : Nat} {i : Info} (hi : ρ b = some i) : SR P B w0 ρ (A.put b none) w := by
  have hb : b < A.next := h.dom b i hi
  refine ⟨h.below, h.low, h.dom, h.room, fun c z hz => ?_, fun c z hc => ⟨(h.off c z hc).1, by
    rw [put_get h.room hb, if_neg (by intro e; subst e; rw [(h.off c z hc).1] at hi; cases hi)]
    exact (h.off c z hc).2⟩, fun c z j hz hj => ?_, fun c d z z' j j' hz hz' hj hj' he => ?_, h.glo, ⟨h.marks.1, fun r hr => ?_⟩⟩
  · rw [put_get h.room hb] at hz
    split at hz
    · cases hz
    · exact h.lt c z hz
  · rw [put_get h.room hb] at hz
    split at hz
    · cases hz
    · exact h.blk c z j hz hj
  · rw [put_get h.room hb] at hz hz'
    split at hz
    · cases hz
    · split at hz'
      · cases hz'
      · exact h.apart c d z z' j j' hz hz' hj hj' he
  · obtain ⟨m1, m2, m3⟩ := h.marks.2 r hr
    refine ⟨m1, m2, fun c z j hz hj => ?_⟩
    rw [put_get h.room hb] at hz
    split at hz
    · cases hz
    · exact m3 c z j hz hj

def Ren.more (ρ : Ren) (b : Nat) (i : Info) : Ren := fun c => if c = b then some i else ρ c
theorem Ren.le_more {ρ : Ren} {b : Nat} {i : Info} (h : ρ b = none) : ρ.le (ρ.more b i) := fun c j hj => by
  unfold Ren.more
  rw [if_neg (by intro e; subst e; rw [h] at hj; cases hj)]
  exact hj
theorem Ren.more_self (ρ : Ren) (b : Nat) (i : Info) : ρ.more b i b = some i := by unfold Ren.more; rw [if_pos rfl]
theorem SR.fresh (h : SR P B w0 ρ A w) : ρ A.next = none := by
  cases hn : ρ A.next with
  | none => rfl
  | some i => exact absurd (h.dom _ _ hn) (Nat.lt_irrefl _)

theorem room_lt {A : AW} (h : A.room = true) : A.next + 2 < 2 ^ bits := by
  unfold AW.room at h
  exact Nat.le_of_ble_eq_true h
/-- a block that the world has not made yet -/
theorem SR.ghost (h : SR P B w0 ρ A w) (hroom : A.room = true) (x : ABk) : SR P B w0 ρ (A.add x) w := by
  have hr := room_lt hroom
  have hnext : (A.add x).next = A.next + 1 := rfl
  have hne : ∀ c j, ρ c = some j → c ≠ A.next := by
    intro c j hj e
    have := h.dom c j hj
    omega
  refine ⟨h.below, h.low, fun b i hi => Nat.lt_succ_of_lt (h.dom b i hi), by rw [hnext]; omega, fun c z hz => ?_, fun c z hc => ⟨(h.off c z hc).1, by
    rw [add_get h.room, if_neg (Nat.ne_of_lt (h.lt c z (h.off c z hc).2))]
    exact (h.off c z hc).2⟩, fun c z j hz hj => ?_, fun c d z z' j j' hz hz' hj hj' he => ?_, h.glo, ⟨h.marks.1, fun r hr => ?_⟩⟩
  · rw [hnext]
    rw [add_get h.room] at hz
    split at hz
    · omega
    · have := h.lt c z hz; omega
  · rw [add_get h.room, if_neg (hne c j hj)] at hz
    exact h.blk c z j hz hj
  · rw [add_get h.room, if_neg (hne c j hj)] at hz
    rw [add_get h.room, if_neg (hne d j' hj')] at hz'
    exact h.apart c d z z' j j' hz hz' hj hj' he
  · obtain ⟨m1, m2, m3⟩ := h.marks.2 r hr
    refine ⟨m1, m2, fun c z j hz hj => ?_⟩
    rw [add_get h.room, if_neg (hne c j hj)] at hz
    exact m3 c z j hz hj
/-- .. and that it makes now -/
theorem SR.land (h : SR P B w0 ρ A w) {b : Nat} (hn : ρ b = none) (hoff : ∀ x, ¬ w0.Γ b x) {x : ABk} (hx : A.heap.get b = some x) {o' : Obj} {i : Info}
    {w' : World} (hos : w'.os = w.os) (htp : w'.tape = w.tape) (hout : w'.output = w.output) (hsz : w.heap.size ≤ w'.heap.size)
    (hB : B ≤ i.g) (hg : w'.heap[i.g]? = some o') (hk : ∀ k, k ≠ i.g → k < w.heap.size → w'.heap[k]? = w.heap[k]?)
    (hap : ∀ b y j, A.heap.get b = some y → ρ b = some j → j.g ≠ i.g)
    (hmk : ∀ r, r ∈ w0.mks → r ≠ i.g) (hor : OR P (ρ.more b i) i x o') : SR P B w0 (ρ.more b i) A w' := by
  have hle := Ren.le_more (i := i) hn
  have hb := h.lt b x hx
  refine ⟨⟨hos.trans h.below.os, htp.trans h.below.tape, hout.trans h.below.output, Nat.le_trans h.below.size hsz, fun k hk' => (hk k (by omega) (by have := h.below.size; have := h.low; omega)).trans (h.below.block k hk')⟩, h.low, fun c j hj => ?_, h.room, h.lt, fun c z hc => ⟨?_, (h.off c z hc).2⟩, fun c z j hz hj => ?_, fun c d z z' j j' hz hz' hj hj' he => ?_, fun g hg => let ⟨i, h1, h2⟩ := h.glo g hg; ⟨i, hle g i h1, h2⟩, ⟨h.marks.1, fun r hr => ?_⟩⟩
  · unfold Ren.more at hj
    split at hj
    · rename_i hc; subst hc; exact hb
    · exact h.dom c j hj
  · unfold Ren.more
    rw [if_neg (fun e => hoff z (by rw [← e]; exact hc))]
    exact (h.off c z hc).1
  · unfold Ren.more at hj
    split at hj
    · rename_i hc
      subst hc
      injection hj with hj; subst hj
      rw [hx] at hz; injection hz with hz; subst hz
      exact ⟨.inr hB, o', hg, hor⟩
    · obtain ⟨hBj, oj, hoj, horj⟩ := h.blk c z j hz hj
      have hlt : j.g < w.heap.size := (Array.getElem?_eq_some_iff.1 hoj).1
      exact ⟨hBj, oj, by rw [hk j.g (hap c z j hz hj) hlt]; exact hoj, horj.mono hle⟩
  · unfold Ren.more at hj hj'
    by_cases hc : c = b
    · by_cases hd : d = b
      · rw [hc, hd]
      · rw [if_pos hc] at hj
        rw [if_neg hd] at hj'
        injection hj with hj; subst hj
        exact absurd he.symm (hap d z' j' hz' hj')
    · rw [if_neg hc] at hj
      by_cases hd : d = b
      · rw [if_pos hd] at hj'
        injection hj' with hj'; subst hj'
        exact absurd he (hap c z j hz hj)
      · rw [if_neg hd] at hj'
        exact h.apart c d z z' j j' hz hz' hj hj' he
  · obtain ⟨m1, m2, m3⟩ := h.marks.2 r hr
    refine ⟨m1, (hk r (hmk r hr) (h.mkOld hr)).trans m2, fun c z j hz hj => ?_⟩
    unfold Ren.more at hj
    split at hj
    · injection hj with hj; subst hj; exact fun e => hmk r hr e.symm
    · exact m3 c z j hz hj

/-- a block more -/
theorem SR.new (h : SR P B w0 ρ A w) (hroom : A.room = true) {x : ABk} {o' : Obj} {i : Info}
    {w' : World} (hos : w'.os = w.os) (htp : w'.tape = w.tape) (hout : w'.output = w.output) (hsz : w.heap.size ≤ w'.heap.size)
    (hB : B ≤ i.g) (hg : w'.heap[i.g]? = some o') (hk : ∀ k, k ≠ i.g → k < w.heap.size → w'.heap[k]? = w.heap[k]?)
    (hap : ∀ b y j, A.heap.get b = some y → ρ b = some j → j.g ≠ i.g)
    (hmk : ∀ r, r ∈ w0.mks → r ≠ i.g) (hor : OR P (ρ.more A.next i) i x o') : SR P B w0 (ρ.more A.next i) (A.add x) w' := by
  have hne : ∀ c j, ρ c = some j → c ≠ A.next := by
    intro c j hj e
    have := h.dom c j hj
    omega
  refine (h.ghost hroom x).land h.fresh (fun x hg => Nat.lt_irrefl _ (h.lt _ _ (h.off _ _ hg).2)) (by rw [add_get h.room, if_pos rfl]) hos htp hout hsz hB hg hk (fun c y j hy hj => ?_) hmk hor
  rw [add_get h.room, if_neg (hne c j hj)] at hy
  exact hap c y j hy hj
end
end Go.Proofs.YthnmadbfebjpkaaGreatDoor.Sim
