/- A fast evaluator, part A: frames of eight places, one within the other; what cells and slots hold. Of no program. -/
import Derived.Test.YtnneooidkbhbeaaGreatDoorSimS
import Derived.IntWalk
set_option linter.unusedVariables false
set_option linter.unusedSimpArgs false
namespace Go.Proofs.YtnneooidkbhbeaaGreatDoor.Fast
open Go Go.RowKit Go.Proofs.YtnneooidkbhbeaaGreatDoor.Sim

/-- the end of a run -/
abbrev R := Bool
def bad : R := false
def pass (x : R) : R := x
noncomputable section
/-- a number in plain form -/
def num (z : Nat) (k : Nat → R) : R := Nat.rec (motive := fun _ => R) (k 0) (fun m _ => k m) (Nat.succ z)
theorem num_eq (z : Nat) (k : Nat → R) : num z k = k z := rfl
def ifK (b : Bool) (x y : R) : R := Bool.rec (motive := fun _ => R) y x b
theorem ifK_iff {b : Bool} {x : R} (h : ifK b x bad = true) : b = true ∧ x = true := by cases b <;> first | exact ⟨rfl, h⟩ | cases h
theorem ifK_eq (b : Bool) (x y : R) : ifK b x y = if b then x else y := by cases b <;> rfl

structure F8 (α : Type) where
  (a b c d e f g h : α)
/-- where a thing stands in another one: how it is read, how it is written -/
inductive Wl (F α : Type) where
  | mk (g : F → α) (s : α → F → (F → R) → R)
def Wl.get {F α : Type} (w : Wl F α) (f : F) : α := Wl.rec (motive := fun _ => α) (fun g _ => g f) w
def Wl.put {F α : Type} (w : Wl F α) (x : α) (f : F) (k : F → R) : R := Wl.rec (motive := fun _ => R) (fun _ s => s x f k) w
section
variable {α : Type}
def g0 (f : F8 α) : α := f.a
def g1 (f : F8 α) : α := f.b
def g2 (f : F8 α) : α := f.c
def g3 (f : F8 α) : α := f.d
def g4 (f : F8 α) : α := f.e
def g5 (f : F8 α) : α := f.f
def g6 (f : F8 α) : α := f.g
def g7 (f : F8 α) : α := f.h
def s0 (x : α) (f : F8 α) (k : F8 α → R) : R := F8.rec (motive := fun _ => R) (fun _ b c d e f g h => k ⟨x, b, c, d, e, f, g, h⟩) f
def s1 (x : α) (f : F8 α) (k : F8 α → R) : R := F8.rec (motive := fun _ => R) (fun a _ c d e f g h => k ⟨a, x, c, d, e, f, g, h⟩) f
def s2 (x : α) (f : F8 α) (k : F8 α → R) : R := F8.rec (motive := fun _ => R) (fun a b _ d e f g h => k ⟨a, b, x, d, e, f, g, h⟩) f
def s3 (x : α) (f : F8 α) (k : F8 α → R) : R := F8.rec (motive := fun _ => R) (fun a b c _ e f g h => k ⟨a, b, c, x, e, f, g, h⟩) f
def s4 (x : α) (f : F8 α) (k : F8 α → R) : R := F8.rec (motive := fun _ => R) (fun a b c d _ f g h => k ⟨a, b, c, d, x, f, g, h⟩) f
def s5 (x : α) (f : F8 α) (k : F8 α → R) : R := F8.rec (motive := fun _ => R) (fun a b c d e _ g h => k ⟨a, b, c, d, e, x, g, h⟩) f
def s6 (x : α) (f : F8 α) (k : F8 α → R) : R := F8.rec (motive := fun _ => R) (fun a b c d e f _ h => k ⟨a, b, c, d, e, f, x, h⟩) f
def s7 (x : α) (f : F8 α) (k : F8 α → R) : R := F8.rec (motive := fun _ => R) (fun a b c d e f g _ => k ⟨a, b, c, d, e, f, g, x⟩) f
end
def w8 (α : Type) : Nat → Wl (F8 α) α
  | 0 => .mk g0 s0
  | 1 => .mk g1 s1
  | 2 => .mk g2 s2
  | 3 => .mk g3 s3
  | 4 => .mk g4 s4
  | 5 => .mk g5 s5
  | 6 => .mk g6 s6
  | _ => .mk g7 s7
/-- one within the other -/
def Wl.comp {F G α : Type} (a : Wl G α) (b : Wl F G) : Wl F α := Wl.rec (motive := fun _ => Wl F α) (fun ga sa => Wl.rec (motive := fun _ => Wl F α) (fun gb sb => .mk (fun f => ga (gb f)) (fun x f k => sa x (gb f) fun y => sb y f k)) b) a
abbrev F64 (α : Type) := F8 (F8 α)
abbrev F512 (α : Type) := F8 (F64 α)
abbrev F4096 (α : Type) := F8 (F512 α)
abbrev F32768 (α : Type) := F8 (F4096 α)
def w64 (α : Type) (i : Nat) : Wl (F64 α) α := (w8 α (Nat.mod i 8)).comp (w8 (F8 α) (Nat.div i 8))
def w512 (α : Type) (i : Nat) : Wl (F512 α) α := (w64 α (Nat.mod i 64)).comp (w8 (F64 α) (Nat.div i 64))
def w4096 (α : Type) (i : Nat) : Wl (F4096 α) α := (w512 α (Nat.mod i 512)).comp (w8 (F512 α) (Nat.div i 512))
def w32768 (α : Type) (i : Nat) : Wl (F32768 α) α := (w4096 α (Nat.mod i 4096)).comp (w8 (F4096 α) (Nat.div i 4096))
def r8 {α : Type} (x : α) : F8 α := ⟨x, x, x, x, x, x, x, x⟩

/-- what the places are: read and written, below a bound -/
structure Lens (F α : Type) (N : Nat) where
  get : Nat → F → α
  set : Nat → α → F → F
  law : ∀ i j x f, i < N → j < N → get j (set i x f) = if j = i then x else get j f
structure WlOk {F α : Type} {N : Nat} (w : Wl F α) (L : Lens F α N) (i : Nat) : Prop where
  g : ∀ f, w.get f = L.get i f
  s : ∀ x f k, w.put x f k = k (L.set i x f)
def L8 (α : Type) : Lens (F8 α) α 8 where
  get i f := (w8 α i).get f
  set i x f := match i with
    | 0 => ⟨x, f.b, f.c, f.d, f.e, f.f, f.g, f.h⟩
    | 1 => ⟨f.a, x, f.c, f.d, f.e, f.f, f.g, f.h⟩
    | 2 => ⟨f.a, f.b, x, f.d, f.e, f.f, f.g, f.h⟩
    | 3 => ⟨f.a, f.b, f.c, x, f.e, f.f, f.g, f.h⟩
    | 4 => ⟨f.a, f.b, f.c, f.d, x, f.f, f.g, f.h⟩
    | 5 => ⟨f.a, f.b, f.c, f.d, f.e, x, f.g, f.h⟩
    | 6 => ⟨f.a, f.b, f.c, f.d, f.e, f.f, x, f.h⟩
    | _ => ⟨f.a, f.b, f.c, f.d, f.e, f.f, f.g, x⟩
  law i j x f hi hj := by
    obtain ⟨a, b, c, d, e, f, g, h⟩ := f
    match i, hi with
    | 0, _ | 1, _ | 2, _ | 3, _ | 4, _ | 5, _ | 6, _ | 7, _ =>
      match j, hj with
      | 0, _ | 1, _ | 2, _ | 3, _ | 4, _ | 5, _ | 6, _ | 7, _ => rfl
theorem w8_ok {α : Type} {i : Nat} (hi : i < 8) : WlOk (w8 α i) (L8 α) i := by
  refine ⟨fun f => rfl, fun x f k => ?_⟩
  obtain ⟨a, b, c, d, e, f, g, h⟩ := f
  match i, hi with
  | 0, _ | 1, _ | 2, _ | 3, _ | 4, _ | 5, _ | 6, _ | 7, _ => rfl
def Lens.comp {F G α : Type} {n m : Nat} (A : Lens G α m) (B : Lens F G n) : Lens F α (n * m) where
  get i f := A.get (i % m) (B.get (i / m) f)
  set i x f := B.set (i / m) (A.set (i % m) x (B.get (i / m) f)) f
  law i j x f hi hj := by
    have hm : 0 < m := by
      cases m with
      | zero => rw [Nat.mul_zero] at hi; exact absurd hi (Nat.not_lt_zero i)
      | succ m => exact Nat.succ_pos m
    have hi' : i / m < n := Nat.div_lt_of_lt_mul (by rw [Nat.mul_comm]; exact hi)
    have hj' : j / m < n := Nat.div_lt_of_lt_mul (by rw [Nat.mul_comm]; exact hj)
    rw [B.law _ _ _ _ hi' hj']
    by_cases h : j / m = i / m
    · rw [if_pos h, A.law _ _ _ _ (Nat.mod_lt _ hm) (Nat.mod_lt _ hm), h]
      by_cases h2 : j % m = i % m
      · rw [if_pos h2, if_pos]
        rw [← Nat.div_add_mod j m, ← Nat.div_add_mod i m, h, h2]
      · rw [if_neg h2, if_neg (fun e => h2 (by rw [e]))]
    · rw [if_neg h, if_neg (fun e => h (by rw [e]))]
theorem comp_ok {F G α : Type} {n m : Nat} {a : Wl G α} {b : Wl F G} {A : Lens G α m} {B : Lens F G n} {i : Nat} (ha : WlOk a A (i % m)) (hb : WlOk b B (i / m)) : WlOk (a.comp b) (A.comp B) i := by
  obtain ⟨ga, sa⟩ := a
  obtain ⟨gb, sb⟩ := b
  refine ⟨fun f => ?_, fun x f k => ?_⟩
  · have h1 := hb.g f
    have h2 := ha.g (gb f)
    show ga (gb f) = A.get (i % m) (B.get (i / m) f)
    rw [← h1]; exact h2
  · have h1 := hb.g f
    show sa x (gb f) (fun y => sb y f k) = k (B.set (i / m) (A.set (i % m) x (B.get (i / m) f)) f)
    rw [← h1]
    exact (ha.s x (gb f) _).trans (hb.s _ f k)
def L64 (α : Type) : Lens (F64 α) α 64 := (L8 α).comp (L8 (F8 α))
def L512 (α : Type) : Lens (F512 α) α 512 := (L64 α).comp (L8 (F64 α))
def L4096 (α : Type) : Lens (F4096 α) α 4096 := (L512 α).comp (L8 (F512 α))
def L32768 (α : Type) : Lens (F32768 α) α 32768 := (L4096 α).comp (L8 (F4096 α))
theorem w64_ok {α : Type} {i : Nat} (hi : i < 64) : WlOk (w64 α i) (L64 α) i := comp_ok (w8_ok (Nat.mod_lt _ (by decide))) (w8_ok (Nat.div_lt_of_lt_mul hi))
theorem w512_ok {α : Type} {i : Nat} (hi : i < 512) : WlOk (w512 α i) (L512 α) i := comp_ok (w64_ok (Nat.mod_lt _ (by decide))) (w8_ok (Nat.div_lt_of_lt_mul hi))
theorem w4096_ok {α : Type} {i : Nat} (hi : i < 4096) : WlOk (w4096 α i) (L4096 α) i := comp_ok (w512_ok (Nat.mod_lt _ (by decide))) (w8_ok (Nat.div_lt_of_lt_mul hi))
theorem w32768_ok {α : Type} {i : Nat} (hi : i < 32768) : WlOk (w32768 α i) (L32768 α) i := comp_ok (w4096_ok (Nat.mod_lt _ (by decide))) (w8_ok (Nat.div_lt_of_lt_mul hi))
theorem r8_get {α : Type} (x : α) (i : Nat) : (L8 α).get i (r8 x) = x := by
  match i with
  | 0 | 1 | 2 | 3 | 4 | 5 | 6 => rfl
  | _ + 7 => rfl

/-- a string's bytes, the first one lowest -/
def bytesOf (n z : Nat) : ByteArray := ⟨⟨(List.range n).map fun i => UInt8.ofNat (Nat.shiftRight z (8 * i))⟩⟩
/-- what a cell holds -/
inductive FV where
  | bool (b : Bool)
  | int (k : IntKind) (z : Int)
  | str (n z : Nat)
  | ptr (b o : Nat)
  | slc (b o n c : Nat)
  | nilS (n c : Nat)
  | fn (g : FuncId) (f c : List Value)
  | map (b : Nat)
  | val (v : Value)
/-- a value of one cell -/
def oneV (v : Value) : Value := match v with
  | .agg _ => .nilIface
  | .tuple _ => .nilIface
  | v => v
def FV.up : FV → Value
  | .bool b => .bool b
  | .int k z => .int k z
  | .str n z => .string (bytesOf n z)
  | .ptr b o => .pointer (some ⟨b, o, none⟩)
  | .slc b o n c => .slice (some ⟨b, o, none⟩) n c
  | .nilS n c => .slice none n c
  | .fn g f c => .func (.func g) ⟨f⟩ ⟨c⟩
  | .map b => .map (some b)
  | .val v => oneV v
/-- a row of cells -/
abbrev Ro := F64 FV
abbrev Lr := L64 FV
def fu : FV := .val .nilIface
def row0 : Ro := r8 (r8 fu)
/-- what a slot holds -/
inductive SV where
  | val (v : FV)
  | row (n : Nat) (f : Ro)
  | nil
  | cons (a b : SV)
def rowL (f : Ro) (n : Nat) : List Value := (List.range n).map fun i => (Lr.get i f).up
def SV.tl : SV → List Value
  | .cons (.val v) b => v.up :: SV.tl b
  | .cons (.row n f) b => .agg ⟨rowL f n⟩ :: SV.tl b
  | .cons _ b => undef :: SV.tl b
  | _ => []
def SV.up : SV → Value
  | .val v => v.up
  | .row n f => .agg ⟨rowL f n⟩
  | x => .tuple ⟨x.tl⟩
abbrev Sl := F512 SV
abbrev Ls := L512 SV
def u0 : SV := .nil
def slots0 : Sl := r8 (r8 (r8 u0))
theorem u0_up : u0.up = undef := rfl
/-- the slots stand as the evaluator's do -/
structure SlR (S : Sl) (t : Array Value) : Prop where
  size : t.size ≤ 512
  get : ∀ d, d < t.size → t[d]? = some (SV.up (Ls.get d S))

abbrev Rows := F512 Ro
abbrev Lw := L512 Ro
def rows0 : Rows := r8 (r8 (r8 row0))
/-- a map's entry -/
structure ME where
  key : FV
  val : SV
  born : Nat
/-- what a block holds: n rows of esz cells; a map -/
inductive FO where
  | no
  | map (es : List ME) (clock : Nat)
  | iter (m : Option Nat) (since : Nat) (seen : List Nat) (stepped : Nat)
  | blk (rows : Rows) (n esz : Nat) (e : TypeId) (fam ro : Bool)
  | siter (n z p : Nat)
  | loop (L : Sl) (n : Nat) (ps : List Nat) (a b : Code) (st : Nat) (pend : AE)
abbrev Hp := F32768 FO
abbrev Lh := L32768 FO
def heap0 : Hp := r8 (r8 (r8 (r8 (r8 .no))))
structure FM where
  heap : Hp
  next : Nat
def cellAt (rows : Rows) (esz j : Nat) : FV := Lr.get (j % esz) (Lw.get (j / esz) rows)
def stOf : Nat → LoopState
  | 0 => .ready
  | 1 => .busy
  | 2 => .done
  | _ => .exhausted
def pendOf : AE → Option Code
  | .normal => none
  | .ret => some .ret
  | .exit id => some (.exit id)
/-- a loop's record -/
def recOf (tmps : Array Value) (ps : List Nat) (a b : Code) (st : Nat) (pend : AE) : Loop := { state := stOf st, pending := pendOf pend, fn := 0, tmps := tmps, params := ⟨ps⟩, assign := a, body := b, defers := 0 }
/-- a block stands as the evaluator's does; of none nothing is told -/
inductive BlkR : FO → Option ABk → Prop
  | no (y : Option ABk) : BlkR .no y
  | iter (m : Option Nat) (since : Nat) (seen : List Nat) (stepped : Nat) : BlkR (.iter m since seen stepped) (some ⟨.mapIter m since ⟨seen⟩ stepped, false, false⟩)
  | loop {L : Sl} {n : Nat} {ps : List Nat} {a b : Code} {st : Nat} {pend : AE} {tmps : Array Value} (hL : SlR L tmps) (hn : n ≤ tmps.size) : BlkR (.loop L n ps a b st pend) (some ⟨.loop (recOf tmps ps a b st pend), false, false⟩)
  | siter (n z p : Nat) : BlkR (.siter n z p) (some ⟨.stringIter (bytesOf n z) p, false, false⟩)
  | map {es : List ME} {clock : Nat} {c : Array MapEntry} (h : c.toList = es.map fun e => ⟨e.key.up, e.val.up, e.born⟩) : BlkR (.map es clock) (some ⟨.map c clock, false, false⟩)
  | blk {rows : Rows} {n esz : Nat} {e : TypeId} {fam ro : Bool} {c : Array Value} (h0 : 0 < esz) (h1 : esz ≤ 64) (h2 : n ≤ 512) (hs : c.size = n * esz) (hc : ∀ j, j < n * esz → c[j]? = some (cellAt rows esz j).up) :
      BlkR (.blk rows n esz e fam ro) (some ⟨.cells c e (0, 0), fam, ro⟩)
structure MR (F : FM) (A : AW) : Prop where
  next : A.next = F.next
  blk : ∀ b, b < 32768 → BlkR (Lh.get b F.heap) (A.heap.get b)
end
end Go.Proofs.YtnneooidkbhbeaaGreatDoor.Fast
