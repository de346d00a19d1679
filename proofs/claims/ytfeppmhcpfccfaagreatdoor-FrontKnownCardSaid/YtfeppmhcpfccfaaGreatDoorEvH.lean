/- A fast evaluator, part D: what its steps say of the slots and of the memory. Of no program. -/
import Derived.Test.YtfeppmhcpfccfaaGreatDoorEvC
import Derived.Test.YtfeppmhcpfccfaaGreatDoorSimS
import Derived.Laws.Strings
set_option linter.unusedVariables false
set_option linter.unusedSimpArgs false
namespace Go.Proofs.YtfeppmhcpfccfaaGreatDoor.Fast
open Go Go.RowKit Go.Proofs.YtfeppmhcpfccfaaGreatDoor.Sim
noncomputable section

theorem ifK_true {b : Bool} {x : R} (h : ifK b x bad = true) : b = true ∧ x = true := ifK_iff h
theorem num_true {z : Nat} {k : Nat → R} (h : num z k = true) : k z = true := h
theorem fvF_eq (x : FV) (k : FV → R) : fvF x k = k x := by cases x <;> rfl
theorem roF_eq (x : Ro) (k : Ro → R) : roF x k = k x := rfl
theorem svF_eq (x : SV) (k : SV → R) : svF x k = k x := by cases x <;> rfl
theorem boolF_eq (b : Bool) (k : SV → R) : boolF b k = k (.val (.bool b)) := by cases b <;> rfl
theorem intF_eq (z : Int) (k : Int → R) : intF z k = k z := by cases z <;> rfl
theorem not_bad {p : Prop} (h : bad = true) : p := by cases h
theorem valK_true {x : SV} {k : FV → R} (h : valK x k = true) : ∃ v, x = .val v ∧ k v = true := by
  cases x <;> first | exact ⟨_, rfl, h⟩ | exact not_bad h
theorem rowK_true {x : SV} {k : Nat → Ro → R} (h : rowK x k = true) : ∃ n f, x = .row n f ∧ k n f = true := by
  cases x <;> first | exact ⟨_, _, rfl, h⟩ | exact not_bad h
theorem boolK_true {x : SV} {k : Bool → R} (h : boolK x k = true) : ∃ b, x = .val (.bool b) ∧ k b = true := by
  obtain ⟨v, rfl, h⟩ := valK_true h
  cases v <;> first | exact ⟨_, rfl, h⟩ | exact not_bad h
theorem intK_true {x : SV} {k : IntKind → Int → R} (h : intK x k = true) : ∃ i z, x = .val (.int i z) ∧ k i z = true := by
  obtain ⟨v, rfl, h⟩ := valK_true h
  cases v <;> first | exact ⟨_, _, rfl, h⟩ | exact not_bad h
theorem strK_true {x : SV} {k : Nat → Nat → R} (h : strK x k = true) : ∃ n z, x = .val (.str n z) ∧ k n z = true := by
  obtain ⟨v, rfl, h⟩ := valK_true h
  cases v <;> first | exact ⟨_, _, rfl, h⟩ | exact not_bad h
theorem ptrK_true {x : SV} {k : Nat → Nat → R} (h : ptrK x k = true) : ∃ b o, x = .val (.ptr b o) ∧ k b o = true := by
  obtain ⟨v, rfl, h⟩ := valK_true h
  cases v <;> first | exact ⟨_, _, rfl, h⟩ | exact not_bad h
theorem funK_true {x : SV} {k : FuncId → List Value → List Value → R} (h : funK x k = true) : ∃ g f c, x = .val (.fn g f c) ∧ k g f c = true := by
  obtain ⟨v, rfl, h⟩ := valK_true h
  cases v <;> first | exact ⟨_, _, _, rfl, h⟩ | exact not_bad h
theorem slcK_true {x : SV} {k0 : Nat → Nat → R} {k : Nat → Nat → Nat → Nat → R} (h : slcK x k0 k = true) : (∃ n c, x = .val (.nilS n c) ∧ k0 n c = true) ∨ ∃ b o n c, x = .val (.slc b o n c) ∧ k b o n c = true := by
  obtain ⟨v, rfl, h⟩ := valK_true h
  cases v <;> first | exact .inl ⟨_, _, rfl, h⟩ | exact .inr ⟨_, _, _, _, rfl, h⟩ | exact not_bad h
theorem natV_true {z : Int} {k : Nat → R} (h : natV z k = true) : ∃ i, z = Int.ofNat i ∧ k i = true := by
  cases z <;> first | exact ⟨_, rfl, h⟩ | exact not_bad h
theorem oneV_one (v : Value) : oneB (oneV v) = true := by cases v <;> rfl
theorem oneV_eq {v : Value} (h : oneB v = true) : oneV v = v := by cases v <;> first | rfl | cases h
theorem up_one (x : FV) : oneB x.up = true := by
  cases x with
  | val v => exact oneV_one v
  | _ => rfl
theorem inB_true {o n esz : Nat} {k : R} (h : inB o n esz k = true) : o < n * esz ∧ k = true := by
  obtain ⟨h1, h2⟩ := ifK_true h
  exact ⟨Nat.le_of_ble_eq_true h1, h2⟩
theorem blt_lt {a b : Nat} (h : Nat.blt a b = true) : a < b := Nat.le_of_ble_eq_true h
theorem beq_eq {a b : Nat} (h : Nat.beq a b = true) : a = b := Nat.eq_of_beq_eq_true h

theorem w262144_get {α : Type} {b : Nat} (h : b < 262144) (f : F262144 α) : (w262144 α b).get f = (L262144 α).get b f := (w262144_ok h).g f
theorem w262144_put {α : Type} {b : Nat} (h : b < 262144) (x : α) (f : F262144 α) (k : F262144 α → R) : (w262144 α b).put x f k = k ((L262144 α).set b x f) := (w262144_ok h).s x f k
theorem w512_get {α : Type} {b : Nat} (h : b < 512) (f : F512 α) : (w512 α b).get f = (L512 α).get b f := (w512_ok h).g f
theorem w512_put {α : Type} {b : Nat} (h : b < 512) (x : α) (f : F512 α) (k : F512 α → R) : (w512 α b).put x f k = k ((L512 α).set b x f) := (w512_ok h).s x f k
theorem w64_get {α : Type} {b : Nat} (h : b < 64) (f : F64 α) : (w64 α b).get f = (L64 α).get b f := (w64_ok h).g f
theorem w64_put {α : Type} {b : Nat} (h : b < 64) (x : α) (f : F64 α) (k : F64 α → R) : (w64 α b).put x f k = k ((L64 α).set b x f) := (w64_ok h).s x f k
theorem Lr_set {i j : Nat} (x : FV) (f : Ro) (hi : i < 64) (hj : j < 64) : Lr.get j (Lr.set i x f) = if j = i then x else Lr.get j f := Lr.law i j x f hi hj
theorem Lw_set {i j : Nat} (x : Ro) (f : Rows) (hi : i < 512) (hj : j < 512) : Lw.get j (Lw.set i x f) = if j = i then x else Lw.get j f := Lw.law i j x f hi hj
theorem Ls_set {i j : Nat} (x : SV) (f : Sl) (hi : i < 512) (hj : j < 512) : Ls.get j (Ls.set i x f) = if j = i then x else Ls.get j f := Ls.law i j x f hi hj
theorem Lh_set {i j : Nat} (x : FO) (f : Hp) (hi : i < 262144) (hj : j < 262144) : Lh.get j (Lh.set i x f) = if j = i then x else Lh.get j f := Lh.law i j x f hi hj

/-- slots -/
theorem SlR.put {S : Sl} {t : Array Value} (h : SlR S t) {d : Nat} (hd : d < t.size) {sv : SV} {v : Value} (hv : sv.up = v) : SlR (Ls.set d sv S) (t.setIfInBounds d v) := by
  refine ⟨by rw [Array.size_setIfInBounds]; exact h.size, fun j hj => ?_⟩
  rw [Array.size_setIfInBounds] at hj
  have := h.size
  rw [Ls_set _ _ (by omega) (by omega), Array.getElem?_setIfInBounds]
  by_cases hij : j = d
  · subst hij
    rw [if_pos rfl, if_pos rfl, if_pos hj, hv]
  · rw [if_neg hij, if_neg (fun e => hij e.symm)]
    exact h.get j hj

/-- memory -/
theorem blkK_true {b : Nat} {F : FM} {k : Rows → Nat → Nat → TypeId → Bool → Bool → R} (h : blkK b F k = true) : b < 262144 ∧ ∃ rows n esz e fam ro, Lh.get b F.heap = .blk rows n esz e fam ro ∧ k rows n esz e fam ro = true := by
  obtain ⟨h1, h2⟩ := ifK_true h
  have hb := blt_lt h1
  refine ⟨hb, ?_⟩
  rw [w262144_get hb] at h2
  generalize (L262144 FO).get b F.heap = x at h2
  cases x with
  | no => exact not_bad h2
  | map => exact not_bad h2
  | iter => exact not_bad h2
  | siter => exact not_bad h2
  | loop => exact not_bad h2
  | chan => exact not_bad h2
  | blk rows n esz e fam ro => exact ⟨rows, n, esz, e, fam, ro, rfl, h2⟩
theorem lpK_true {b : Nat} {F : FM} {k : Sl → Nat → List Nat → Code → Code → Nat → AE → R} (h : lpK b F k = true) : b < 262144 ∧ ∃ L n ps a c st pend, Lh.get b F.heap = .loop L n ps a c st pend ∧ k L n ps a c st pend = true := by
  obtain ⟨h1, h2⟩ := ifK_true h
  have hb := blt_lt h1
  refine ⟨hb, ?_⟩
  rw [w262144_get hb] at h2
  generalize (L262144 FO).get b F.heap = x at h2
  cases x with
  | no => exact not_bad h2
  | map => exact not_bad h2
  | iter => exact not_bad h2
  | siter => exact not_bad h2
  | blk => exact not_bad h2
  | chan => exact not_bad h2
  | loop L n ps a c st pend => exact ⟨L, n, ps, a, c, st, pend, rfl, h2⟩
theorem MR.loop {F : FM} {A : AW} (h : MR F A) {b : Nat} (hb : b < 262144) {L : Sl} {n : Nat} {ps : List Nat} {a c : Code} {st : Nat} {pend : AE} (hg : Lh.get b F.heap = .loop L n ps a c st pend) :
    ∃ tmps, A.heap.get b = some ⟨.loop (recOf tmps ps a c st pend), false, false⟩ ∧ SlR L tmps ∧ n ≤ tmps.size := by
  have := h.blk b hb
  rw [hg] at this
  generalize hy : A.heap.get b = y at this
  cases this with
  | loop hL hn => exact ⟨_, rfl, hL, hn⟩
structure Blk (A : AW) (b : Nat) (rows : Rows) (n esz : Nat) (e : TypeId) (fam ro : Bool) (c : Array Value) : Prop where
  get : A.heap.get b = some ⟨.cells c e (0, 0), fam, ro⟩
  h0 : 0 < esz
  h1 : esz ≤ 64
  h2 : n ≤ 512
  size : c.size = n * esz
  cell : ∀ j, j < n * esz → c[j]? = some (cellAt rows esz j).up
theorem MR.at {F : FM} {A : AW} (h : MR F A) {b : Nat} (hb : b < 262144) {rows : Rows} {n esz : Nat} {e : TypeId} {fam ro : Bool} (hg : Lh.get b F.heap = .blk rows n esz e fam ro) : ∃ c, Blk A b rows n esz e fam ro c := by
  have := h.blk b hb
  rw [hg] at this
  generalize hy : A.heap.get b = y at this
  cases this with
  | blk h0 h1 h2 hs hc => exact ⟨_, hy, h0, h1, h2, hs, hc⟩
theorem bits_lt {b : Nat} (h : b < 262144) : b + 1 < 2 ^ Sim.bits := by
  have : 2 ^ Sim.bits = 1073741824 := by decide
  omega
/-- a block is another one -/
theorem MR.put {F : FM} {A : AW} (h : MR F A) {b : Nat} (hb : b < 262144) {x : FO} {A' : AW} (hn : A'.next = A.next) (hx : BlkR x (A'.heap.get b)) (ho : ∀ c, c ≠ b → A'.heap.get c = A.heap.get c) : MR ⟨Lh.set b x F.heap, F.next⟩ A' := by
  refine ⟨hn.trans h.next, fun c hc => ?_⟩
  rw [Lh_set _ _ hb hc]
  by_cases hcb : c = b
  · rw [if_pos hcb, hcb]; exact hx
  · rw [if_neg hcb, ho c hcb]; exact h.blk c hc
theorem AW.put_at {A : AW} {b : Nat} (hb : b < 262144) (x : Option ABk) (c : Nat) : (A.put b x).heap.get c = if c = b then x else A.heap.get c := Tr.get_set Sim.bits A.heap b c x (bits_lt hb)
theorem MR.putA {F : FM} {A : AW} (h : MR F A) {b : Nat} (hb : b < 262144) {x : FO} {y : Option ABk} (hx : BlkR x y) : MR ⟨Lh.set b x F.heap, F.next⟩ (A.put b y) :=
  h.put hb rfl (by rw [AW.put_at hb, if_pos rfl]; exact hx) (fun c hc => by rw [AW.put_at hb, if_neg hc])
theorem putF_true {b : Nat} (hb : b < 262144) {x : FO} {F : FM} {k : FM → R} (h : putF b x F k = true) : k ⟨Lh.set b x F.heap, F.next⟩ = true := by
  unfold putF at h
  rw [w262144_put hb] at h
  exact h
theorem newF_true {x : FO} {F : FM} {k : Nat → FM → R} (h : newF x F k = true) : F.next < 262143 ∧ k F.next ⟨Lh.set F.next x F.heap, F.next + 1⟩ = true := by
  obtain ⟨h1, h2⟩ := ifK_true h
  have hb := blt_lt h1
  rw [w262144_put (by omega)] at h2
  exact ⟨hb, h2⟩
theorem MR.room {F : FM} {A : AW} (h : MR F A) (hb : F.next < 262143) : A.room = true := by
  unfold AW.room
  rw [h.next]
  exact Nat.ble_eq_true_of_le (by have : 2 ^ Sim.bits = 1073741824 := (by decide); omega)
theorem MR.add {F : FM} {A : AW} (h : MR F A) (hb : F.next < 262143) {x : FO} {y : ABk} (hx : BlkR x (some y)) : MR ⟨Lh.set F.next x F.heap, F.next + 1⟩ (A.add y) := by
  refine ⟨by show A.next + 1 = _; rw [h.next], fun c hc => ?_⟩
  rw [Lh_set _ _ (by omega) hc]
  have hg : (A.add y).heap.get c = if c = A.next then some y else A.heap.get c := Tr.get_set Sim.bits A.heap A.next c (some y) (bits_lt (by rw [h.next]; omega))
  rw [hg, h.next]
  by_cases hcb : c = F.next
  · rw [if_pos hcb, if_pos hcb]; exact hx
  · rw [if_neg hcb, if_neg hcb]; exact h.blk c hc

/-- a cell of rows -/
theorem div_lt_of {o n esz : Nat} (h : o < n * esz) : o / esz < n := Nat.div_lt_of_lt_mul (by rw [Nat.mul_comm]; exact h)
theorem comp_get {F G α : Type} (a : Wl G α) (b : Wl F G) (f : F) : (a.comp b).get f = a.get (b.get f) := by cases a; cases b; rfl
theorem comp_put {F G α : Type} (a : Wl G α) (b : Wl F G) (x : α) (f : F) (k : F → R) : (a.comp b).put x f k = a.put x (b.get f) fun y => b.put y f k := by cases a; cases b; rfl
theorem wCell_get {o n esz : Nat} (h : o < n * esz) (h0 : 0 < esz) (h1 : esz ≤ 64) (h2 : n ≤ 512) (rows : Rows) : (wCell o esz).get rows = cellAt rows esz o := by
  have hd := div_lt_of h
  have hm := Nat.mod_lt o h0
  unfold wCell cellAt
  rw [comp_get]
  show (w64 FV (o % esz)).get ((w512 Ro (o / esz)).get rows) = _
  rw [w512_get (by omega), w64_get (by omega)]
theorem wCell_put {o n esz : Nat} (h : o < n * esz) (h0 : 0 < esz) (h1 : esz ≤ 64) (h2 : n ≤ 512) (u : FV) (rows : Rows) (k : Rows → R) : (wCell o esz).put u rows k = k (Lw.set (o / esz) (Lr.set (o % esz) u (Lw.get (o / esz) rows)) rows) := by
  have hd := div_lt_of h
  have hm := Nat.mod_lt o h0
  unfold wCell
  rw [comp_put]
  show (w64 FV (o % esz)).put u ((w512 Ro (o / esz)).get rows) (fun y => (w512 Ro (o / esz)).put y rows k) = _
  rw [w512_get (by omega), w64_put (by omega), w512_put (by omega)]
theorem cell_set {o n esz : Nat} (h : o < n * esz) (h0 : 0 < esz) (h1 : esz ≤ 64) (h2 : n ≤ 512) (u : FV) (rows : Rows) {j : Nat} (hj : j < n * esz) : cellAt (Lw.set (o / esz) (Lr.set (o % esz) u (Lw.get (o / esz) rows)) rows) esz j = if j = o then u else cellAt rows esz j := by
  have hd := div_lt_of h
  have hm := Nat.mod_lt o h0
  have hdj := div_lt_of hj
  have hmj := Nat.mod_lt j h0
  unfold cellAt
  rw [Lw_set _ _ (by omega) (by omega)]
  by_cases hq : j / esz = o / esz
  · rw [if_pos hq, Lr_set _ _ (by omega) (by omega)]
    by_cases hr : j % esz = o % esz
    · have : j = o := by rw [← Nat.div_add_mod j esz, ← Nat.div_add_mod o esz, hq, hr]
      rw [if_pos hr, if_pos this]
    · rw [if_neg hr, if_neg (fun e => hr (by rw [e])), hq]
  · rw [if_neg hq, if_neg (fun e => hq (by rw [e]))]
/-- a row of rows -/
theorem row_set {i n esz : Nat} (hi : i < n) (h0 : 0 < esz) (h2 : n ≤ 512) (g : Ro) (rows : Rows) {j : Nat} (hj : j < n * esz) : cellAt (Lw.set i g rows) esz j = if j / esz = i then Lr.get (j % esz) g else cellAt rows esz j := by
  have hdj := div_lt_of hj
  unfold cellAt
  rw [Lw_set _ _ (by omega) (by omega)]
  by_cases hq : j / esz = i
  · rw [if_pos hq, if_pos hq]
  · rw [if_neg hq, if_neg hq]
theorem div_of {i j esz : Nat} (h : j < esz) : (i * esz + j) / esz = i := by
  rw [Nat.mul_comm, Nat.mul_add_div (by omega), Nat.div_eq_of_lt h, Nat.add_zero]
theorem mod_of {i j esz : Nat} (h : j < esz) : (i * esz + j) % esz = j := by
  rw [Nat.mul_comm, Nat.mul_add_mod, Nat.mod_eq_of_lt h]

/-- so many cells, copied -/
theorem copyC_true : ∀ (m i j : Nat) (s t : Ro) (k : Ro → R), i + m ≤ 64 → j + m ≤ 64 → copyC m i j s t k = true → ∃ r, k r = true ∧ ∀ p, p < 64 → Lr.get p r = if j ≤ p ∧ p < j + m then Lr.get (i + (p - j)) s else Lr.get p t
  | 0, i, j, s, t, k, _, _, h => ⟨t, h, fun p _ => by rw [if_neg (by omega)]⟩
  | m + 1, i, j, s, t, k, hi, hj, h => by
    have h' : fvF ((w64 FV i).get s) (fun v => (w64 FV j).put v t fun t => num (Nat.succ i) fun i => num (Nat.succ j) fun j => copyC m i j s t k) = true := h
    rw [fvF_eq, w64_get (by omega), w64_put (by omega)] at h'
    obtain ⟨r, h1, h2⟩ := copyC_true m (i + 1) (j + 1) s _ k (by omega) (by omega) h'
    refine ⟨r, h1, fun p hp => ?_⟩
    rw [h2 p hp]
    by_cases hq : j + 1 ≤ p ∧ p < j + 1 + m
    · rw [if_pos hq, if_pos (by omega), show i + 1 + (p - (j + 1)) = i + (p - j) by omega]
    · rw [if_neg hq, Lr_set _ _ (by omega) hp]
      by_cases he : p = j
      · rw [if_pos he, if_pos (by omega), he, Nat.sub_self, Nat.add_zero]
      · rw [if_neg he, if_neg (by omega)]
/-- so many rows, copied -/
theorem copyR_true : ∀ (m i j : Nat) (s t : Rows) (k : Rows → R), i + m ≤ 512 → j + m ≤ 512 → copyR m i j s t k = true → ∃ r, k r = true ∧ ∀ p, p < 512 → Lw.get p r = if j ≤ p ∧ p < j + m then Lw.get (i + (p - j)) s else Lw.get p t
  | 0, i, j, s, t, k, _, _, h => ⟨t, h, fun p _ => by rw [if_neg (by omega)]⟩
  | m + 1, i, j, s, t, k, hi, hj, h => by
    have h' : roF ((w512 Ro i).get s) (fun v => (w512 Ro j).put v t fun t => num (Nat.succ i) fun i => num (Nat.succ j) fun j => copyR m i j s t k) = true := h
    rw [roF_eq, w512_get (by omega), w512_put (by omega)] at h'
    obtain ⟨r, h1, h2⟩ := copyR_true m (i + 1) (j + 1) s _ k (by omega) (by omega) h'
    refine ⟨r, h1, fun p hp => ?_⟩
    rw [h2 p hp]
    by_cases hq : j + 1 ≤ p ∧ p < j + 1 + m
    · rw [if_pos hq, if_pos (by omega), show i + 1 + (p - (j + 1)) = i + (p - j) by omega]
    · rw [if_neg hq, Lw_set _ _ (by omega) hp]
      by_cases he : p = j
      · rw [if_pos he, if_pos (by omega), he, Nat.sub_self, Nat.add_zero]
      · rw [if_neg he, if_neg (by omega)]
theorem rowL_get (f : Ro) (n i : Nat) : (rowL f n)[i]? = if i < n then some (Lr.get i f).up else none := by
  unfold rowL
  rw [List.getElem?_map]
  by_cases h : i < n
  · rw [List.getElem?_range h, if_pos h]; rfl
  · rw [List.getElem?_eq_none (by simp; omega), if_neg h]; rfl
theorem rowL_len (f : Ro) (n : Nat) : (rowL f n).length = n := by unfold rowL; simp
/-- cells of a block as a row -/
theorem subK_true {o m n esz : Nat} {rows : Rows} {k : Ro → R} (h0 : 0 < esz) (h1 : esz ≤ 64) (h2 : n ≤ 512) (h : subK o m n esz rows k = true) : ∃ r, k r = true ∧ o + m ≤ n * esz ∧ ∀ p, p < m → p < 64 ∧ Lr.get p r = cellAt rows esz (o + p) := by
  obtain ⟨hB, h⟩ := inB_true h
  have hd := div_lt_of hB
  have hm := Nat.mod_lt o h0
  have hdm := Nat.div_add_mod o esz
  have hle : o / esz * esz + esz ≤ n * esz := by
    rw [← Nat.succ_mul]; exact Nat.mul_le_mul_right _ hd
  have hdm' : o / esz * esz + o % esz = o := by rw [Nat.mul_comm]; exact hdm
  cases ha : (Nat.beq m esz && aligned o esz) with
  | true =>
    rw [ha] at h
    rw [Bool.and_eq_true] at ha
    have e1 := beq_eq ha.1
    have e2 : o % esz = 0 := beq_eq ha.2
    have h' : roF ((w512 Ro (o / esz)).get rows) k = true := h
    rw [roF_eq, w512_get (by omega)] at h'
    refine ⟨_, h', by omega, fun p hp => ⟨by omega, ?_⟩⟩
    unfold cellAt
    have e3 : o + p = o / esz * esz + p := by omega
    rw [e3, div_of (by omega), mod_of (by omega)]
  | false =>
    rw [ha] at h
    obtain ⟨h3, h4⟩ := ifK_true (h : ifK (Nat.ble (Nat.add (Nat.mod o esz) m) esz) _ bad = true)
    have h3' : o % esz + m ≤ esz := Nat.le_of_ble_eq_true h3
    have h4' : copyC m (o % esz) 0 ((w512 Ro (o / esz)).get rows) row0 k = true := h4
    rw [w512_get (by omega)] at h4'
    obtain ⟨r, g1, g2⟩ := copyC_true m _ _ _ _ _ (by omega) (by omega) h4'
    refine ⟨r, g1, by omega, fun p hp => ⟨by omega, ?_⟩⟩
    rw [g2 p (by omega), if_pos (by omega), Nat.sub_zero]
    unfold cellAt
    have e3 : o + p = o / esz * esz + (o % esz + p) := by omega
    rw [e3, div_of (by omega), mod_of (by omega)]
theorem takeA_of : ∀ (k : Nat) (l : List Value), k ≤ l.length → takeA k l = some (l.take k)
  | 0, l, _ => by cases l <;> rfl
  | k + 1, [], h => by simp at h
  | k + 1, a :: l, h => by
    unfold takeA
    rw [takeA_of k l (by simp at h; omega)]
    rfl
theorem dropA_of : ∀ (k : Nat) (l : List Value), dropA k l = l.drop k
  | 0, l => by cases l <;> rfl
  | k + 1, [] => by unfold dropA; rfl
  | k + 1, a :: l => by
    unfold dropA
    rw [dropA_of k l]
    rfl
theorem Blk.cells {A : AW} {b : Nat} {rows : Rows} {n esz : Nat} {e : TypeId} {fam ro : Bool} {c : Array Value} (h : Blk A b rows n esz e fam ro c) {o m : Nat} (hm : o + m ≤ n * esz) {l : List Value} (hl : l.length = m) (hc : ∀ p, p < m → l[p]? = some (cellAt rows esz (o + p)).up) : cellsA A b o m = some l := by
  unfold cellsA
  rw [h.get]
  dsimp only
  have hlen : c.toList.length = n * esz := by rw [Array.length_toList]; exact h.size
  rw [dropA_of, takeA_of m _ (by rw [List.length_drop]; omega)]
  congr 1
  apply List.ext_getElem?
  intro p
  by_cases hp : p < m
  · rw [List.getElem?_take_of_lt hp, List.getElem?_drop, Array.getElem?_toList, h.cell _ (by omega), hc p hp]
  · rw [List.getElem?_eq_none (by rw [List.length_take]; omega), List.getElem?_eq_none (by omega)]
end
end Go.Proofs.YtfeppmhcpfccfaaGreatDoor.Fast
/- A fast evaluator, part E: each operation, that it is the evaluator's. Of no program. -/
namespace Go.Proofs.YtfeppmhcpfccfaaGreatDoor.Fast
open Go Go.RowKit Go.Proofs.YtfeppmhcpfccfaaGreatDoor.Sim
noncomputable section

/-- what is handed on -/
def Post (k : SV → FM → R) (v : Value) (A : AW) : Prop := ∃ sv F, sv.up = v ∧ MR F A ∧ k sv F = true
/-- a call's slots -/
structure ArgR (S : Sl) (args : Array Value) : Prop where
  size : args.size ≤ 512
  get : ∀ d, d < args.size → args[d]? = some (SV.up (Ls.get d S))
  rest : ∀ d, args.size ≤ d → d < 512 → SV.up (Ls.get d S) = undef
/-- what a Builder's check does, and its text -/
structure BldOk (P : Program) : Prop where
  used : ∀ {g te : Nat}, ckT P g = some te → ∀ (b o : Nat) (w : World), w.cell? ⟨b, o, none⟩ = some (.pointer (some ⟨b, o, none⟩)) → Calls P g #[.pointer (some ⟨b, o, none⟩)] w fun e w' => e = .returned (.tuple #[]) ∧ w' = w
  fresh : ∀ {g te : Nat}, ckT P g = some te → ∀ (b o : Nat) (w : World) (c : Array Value) (t : TypeId), w.heap[b]? = some (.cells c t (0, 0)) → liesB P te t c.size o = true → c[o]? = some (.pointer none) →
    Calls P g #[.pointer (some ⟨b, o, none⟩)] w fun e w' => e = .returned (.tuple #[]) ∧ w' = w.setCell ⟨b, o, none⟩ (.pointer (some ⟨b, o, none⟩))
  textNil : ∀ {g te : Nat}, tkT P g = some te → ∀ (b o : Nat) (w : World), w.cell? ⟨b, o + 1, none⟩ = some (.slice none 0 0) → Calls P g #[.pointer (some ⟨b, o, none⟩)] w fun e w' => e = .returned (.string ⟨#[]⟩) ∧ w' = w.drew
  text : ∀ {g te tb : Nat}, tkT P g = some te → byteT P te = some tb → ∀ (b o d cap : Nat) (w : World) (cur : Array Value) (l : List UInt8), w.cell? ⟨b, o + 1, none⟩ = some (.slice (some ⟨d, 0, none⟩) l.length cap) → w.heap[d]? = some (.cells cur tb (0, 0)) →
    l ≠ [] → l.length ≤ cap → l.length ≤ 1000000 → (∀ (j : Nat) (x : UInt8), l[j]? = some x → cur[j]? = some (.int .u8 x.toNat)) →
    Calls P g #[.pointer (some ⟨b, o, none⟩)] w fun e w' => e = .returned (.string ⟨l.toArray⟩) ∧ w' = w.drew.freeze ⟨d, 0, none⟩ l.length
def RcOk (P : Program) (B : Nat) (w0 : Base) (rec : Rc) : Prop := BldOk P ∧ (∀ f S F A args k, f < yB → ArgR S args → MR F A → rec f S F k = true → CallS P B w0 f args A (Post k)) ∧
  (∀ b S F A args k (lp : Loop), b < 262144 → ArgR S args → MR F A → A.heap.get b = some ⟨.loop lp, false, false⟩ → args.size = lp.params.size → rec (yB + b) S F k = true → RoundW P B w0 b ((lp.params.zip args).foldl (fun tmps (p, a) => tmps.setIfInBounds p a) lp.tmps) lp.assign lp.body A (Post k)) ∧
  ∀ f S F A args k, f < yB → ArgR S args → MR F A → rec (dB + f) S F k = true → CallD P B w0 f args A (Post k)
def AccOk (n : Nat) (x : Operand) (a : Acc) : Prop := ∀ L t, SlR L t → n ≤ t.size → (a L).up = ev t x
section
variable {P : Program} {B : Nat} {w0 : Base} {n : Nat}
/-- a quiet operation -/
def QOk (P : Program) (n : Nat) (o : Oper) (c : Op1) : Prop := ∀ rec L F k t A, SlR L t → n ≤ t.size → MR F A → c rec L F k = true →
  match quietA P (ev t) A o with
  | some (.val v) => Post k v A
  | some (.ghost c e m) => A.room = true ∧ Post k (ghostV A.next m) (A.add ⟨.cells c e (0, 0), false, false⟩)
  | none => False
/-- a loud one -/
def LOk (P : Program) (B : Nat) (w0 : Base) (n : Nat) (o : Oper) (c : Op1) : Prop := ∀ rec L F k t A, RcOk P B w0 rec → SlR L t → n ≤ t.size → MR F A → c rec L F k = true →
  match opA P (ev t) o A with
  | some (.val v, A') => Post k v A'
  | some (.skip, A') => Post k undef A'
  | some (.enter f args, A') => CallS P B w0 f args A' (Post k)
  | some (.round b tmps a c, A') => RoundW P B w0 b tmps a c A' (Post k)
  | none => NextK (ev t) o A (Post k)
theorem QOk.val {o : Oper} {c : Op1} (h : ∀ rec L F k t A, SlR L t → n ≤ t.size → MR F A → c rec L F k = true → ∃ v, quietA P (ev t) A o = some (.val v) ∧ Post k v A) : QOk P n o c := by
  intro rec L F k t A h1 h2 h3 h4
  obtain ⟨v, g1, g2⟩ := h rec L F k t A h1 h2 h3 h4
  rw [g1]; exact g2
theorem QOk.bad {o : Oper} : QOk P n o rBad := fun _ _ _ _ _ _ _ _ _ h => not_bad h
theorem LOk.bad {o : Oper} : LOk P B w0 n o rBad := fun _ _ _ _ _ _ _ _ _ _ h => not_bad h
theorem quiet_pure {t : Operand → Value} {A : AW} {o : Oper} (hk : okOp o = true) (hc : cls t o = .pure) {v : Value} (hv : opQ P t o = some v) : quietA P t A o = some (.val v) := by
  unfold quietA
  rw [hk, cond_true, hc]
  dsimp only
  rw [hv]
theorem quiet_mem {t : Operand → Value} {A : AW} {o : Oper} (hk : okOp o = true) (hc : cls t o = .mem) {v : Value} (hv : opM P t A o = some v) : quietA P t A o = some (.val v) := by
  unfold quietA
  rw [hk, cond_true, hc]
  dsimp only
  rw [hv]
/-- .. by its value alone -/
theorem QOk.pure {o : Oper} {c : Op1} (hk : okOp o = true) (hc : ∀ t, cls t o = .pure) (h : ∀ rec L F k t, SlR L t → n ≤ t.size → c rec L F k = true → ∃ sv, opQ P (ev t) o = some (SV.up sv) ∧ k sv F = true) : QOk P n o c :=
  QOk.val fun rec L F k t A h1 h2 h3 h4 => by
    obtain ⟨sv, g1, g2⟩ := h rec L F k t h1 h2 h4
    exact ⟨_, quiet_pure hk (hc _) g1, sv, F, rfl, h3, g2⟩

theorem QOk.pureAt {o : Oper} {c : Op1} (hk : okOp o = true) (h : ∀ rec L F k t, SlR L t → n ≤ t.size → c rec L F k = true → ∃ sv, cls (ev t) o = .pure ∧ opQ P (ev t) o = some (SV.up sv) ∧ k sv F = true) : QOk P n o c :=
  QOk.val fun rec L F k t A h1 h2 h3 h4 => by
    obtain ⟨sv, g0, g1, g2⟩ := h rec L F k t h1 h2 h4
    exact ⟨_, quiet_pure hk g0 g1, sv, F, rfl, h3, g2⟩

variable {dst : Option Tmp} {ty : TypeId} {pos : String} {after : Array Edge} {guard : Option (Nat × Bool)}
theorem cls_len {args : Array Operand} {ts : Array TypeId} {x : Operand} {t : Operand → Value} (hargs : args.toList = [x]) (hx : ∀ b, t x ≠ .map (some b) ∧ t x ≠ .chan (some b)) : cls t ⟨dst, .call ⟨.builtin .len, args, ts⟩, ty, pos, after, guard⟩ = .pure := by
  unfold cls
  dsimp only
  rw [hargs]
  dsimp only
  split
  · rename_i b hb
    exact absurd hb (hx b).1
  · rename_i b hb
    exact absurd hb (hx b).2
  · rfl
theorem rMove_ok {x : Operand} {a : Acc} (ha : AccOk n x a) (hk : okOp ⟨dst, .move x, ty, pos, after, guard⟩ = true) : QOk P n ⟨dst, .move x, ty, pos, after, guard⟩ (rMove a) :=
  QOk.pure hk (fun _ => rfl) fun rec L F k t h1 h2 h => by
    have h' : svF (a L) (fun v => k v F) = true := h
    rw [svF_eq] at h'
    exact ⟨a L, by rw [ha L t h1 h2]; rfl, h'⟩
theorem rAssign_ok {x : Operand} {a : Acc} (ha : AccOk n x a) (hk : okOp ⟨dst, .assign x, ty, pos, after, guard⟩ = true) : QOk P n ⟨dst, .assign x, ty, pos, after, guard⟩ (rMove a) :=
  QOk.pure hk (fun _ => rfl) fun rec L F k t h1 h2 h => by
    have h' : svF (a L) (fun v => k v F) = true := h
    rw [svF_eq] at h'
    exact ⟨a L, by rw [ha L t h1 h2]; rfl, h'⟩
theorem rPick_ok {x y z : Operand} {a b c : Acc} (ha : AccOk n x a) (hb : AccOk n y b) (hc : AccOk n z c) (hk : okOp ⟨dst, .pick x y z, ty, pos, after, guard⟩ = true) : QOk P n ⟨dst, .pick x y z, ty, pos, after, guard⟩ (rPick a b c) :=
  QOk.pure hk (fun _ => rfl) fun rec L F k t h1 h2 h => by
    obtain ⟨q, h3, h4⟩ := boolK_true h
    have e1 := ha L t h1 h2
    rw [h3] at e1
    refine ⟨bif q then b L else c L, ?_, ?_⟩
    · show (match ev t x with | .bool q => some (bif q then ev t y else ev t z) | _ => none) = _
      rw [← e1, ← hb L t h1 h2, ← hc L t h1 h2]
      cases q <;> rfl
    · cases q with
      | true => have h5 : svF (b L) (fun v => k v F) = true := h4; rw [svF_eq] at h5; exact h5
      | false => have h5 : svF (c L) (fun v => k v F) = true := h4; rw [svF_eq] at h5; exact h5
theorem rNilCheck_ok {x : Operand} {a : Acc} (ha : AccOk n x a) (hk : okOp ⟨dst, .nilCheck x, ty, pos, after, guard⟩ = true) : QOk P n ⟨dst, .nilCheck x, ty, pos, after, guard⟩ (rNilCheck a) :=
  QOk.pure hk (fun _ => rfl) fun rec L F k t h1 h2 h => by
    obtain ⟨v, h3, h4⟩ := valK_true h
    have e1 := ha L t h1 h2
    rw [h3] at e1
    show ∃ sv, (match ev t x with | .pointer (some a) => some (.pointer (some a)) | .func (.func f) a b => some (.func (.func f) a b) | _ => none) = some (SV.up sv) ∧ _
    rw [← e1]
    cases v <;> first
      | exact not_bad h4
      | exact ⟨_, rfl, h4⟩
theorem rNot_ok {s : TypeId} {x : Operand} {a : Acc} (ha : AccOk n x a) (hk : okOp ⟨dst, .unOp .not s x, ty, pos, after, guard⟩ = true) : QOk P n ⟨dst, .unOp .not s x, ty, pos, after, guard⟩ (rNot a) :=
  QOk.pure hk (fun _ => rfl) fun rec L F k t h1 h2 h => by
    obtain ⟨q, h3, h4⟩ := boolK_true h
    have e1 := ha L t h1 h2
    rw [h3] at e1
    rw [boolF_eq] at h4
    refine ⟨_, ?_, h4⟩
    show freeQ P (ev t) _ = _
    unfold freeQ
    have e2 : (Op.unOp UnOp.not s x).operands.toList.all (fun y => free (ev t y)) = true := by
      show List.all [x] _ = true
      simp [← e1, SV.up, FV.up, free, freeD, leafFree]
    simp only [e2, isSel, Bool.not_false, Bool.and_self, cond_true]
    simp only [execOp, ← e1, SV.up, FV.up]
    cases q <;> rfl
theorem rExtract_ok {x : Operand} {i : Nat} {a : Acc} (ha : AccOk n x a) (hk : okOp ⟨dst, .extract x i, ty, pos, after, guard⟩ = true) : QOk P n ⟨dst, .extract x i, ty, pos, after, guard⟩ (rExtract i a) :=
  QOk.pure hk (fun _ => rfl) fun rec L F k t h1 h2 h => by
    have e1 := ha L t h1 h2
    have key : ∀ (i : Nat) (s : SV) (k : SV → R), exK i s k = true → ∃ sv, s.tl[i]? = some sv.up ∧ k sv = true ∧ ∃ a b, s = .cons a b := by
      intro i
      induction i with
      | zero =>
        intro s k h
        cases s with
        | cons a b =>
          have h : hd1 a k = true := h
          cases a with
          | val v => exact ⟨.val v, rfl, h, _, _, rfl⟩
          | row n f => exact ⟨.row n f, rfl, h, _, _, rfl⟩
          | nil => exact not_bad h
          | cons c d => exact not_bad h
        | _ => exact not_bad h
      | succ i ih =>
        intro s k h
        cases s with
        | cons a b =>
          obtain ⟨sv, g1, g2, _⟩ := ih b k h
          refine ⟨sv, ?_, g2, _, _, rfl⟩
          cases a <;> (show (_ :: SV.tl b)[i + 1]? = _; rw [List.getElem?_cons_succ]; exact g1)
        | _ => exact not_bad h
    obtain ⟨sv, g1, g2, c, d, g3⟩ := key i (a L) (fun a => k a F) h
    refine ⟨sv, ?_, g2⟩
    show pureRun P (Instr.extract (ev t x) i) = _
    rw [← e1, g3]
    show pureRun P (Instr.extract (.tuple ⟨(SV.cons c d).tl⟩) i) = _
    rw [g3] at g1
    unfold Instr.extract
    have g4 : (⟨(SV.cons c d).tl⟩ : Array Value)[i]? = some sv.up := by rw [← g1]; exact List.getElem?_toArray
    dsimp only
    rw [g4]
    rfl
end
end
end Go.Proofs.YtfeppmhcpfccfaaGreatDoor.Fast
/- A fast evaluator, part F: numbers and strings. Of no program. -/
namespace Go.Proofs.YtfeppmhcpfccfaaGreatDoor.Fast
open Go Go.RowKit Go.Proofs.YtfeppmhcpfccfaaGreatDoor.Sim
noncomputable section

/-- numbers -/
theorem natBeq (x y : Nat) : Nat.beq x y = decide (x = y) := by
  by_cases h : x = y
  · rw [decide_eq_true h, h]; exact Nat.beq_refl y
  · rw [decide_eq_false h]; exact Tr.beq_false h
theorem natBlt (x y : Nat) : Nat.blt x y = decide (x < y) := by
  by_cases h : x < y
  · rw [decide_eq_true h]; exact Nat.ble_eq_true_of_le h
  · rw [decide_eq_false h]
    cases hb : Nat.blt x y with
    | false => rfl
    | true => exact absurd (Nat.le_of_ble_eq_true hb) h
theorem intEq_eq (a b : Int) : intEq a b = decide (a = b) := by
  cases a with
  | ofNat x => cases b with
    | ofNat y => show Nat.beq x y = _; rw [natBeq]; exact decide_eq_decide.2 ⟨fun h => by rw [h], fun h => by injection h⟩
    | negSucc y => show false = _; exact (decide_eq_false (by intro h; cases h)).symm
  | negSucc x => cases b with
    | ofNat y => show false = _; exact (decide_eq_false (by intro h; cases h)).symm
    | negSucc y => show Nat.beq x y = _; rw [natBeq]; exact decide_eq_decide.2 ⟨fun h => by rw [h], fun h => by injection h⟩
theorem intLt_eq (a b : Int) : intLt a b = decide (a < b) := by
  cases a with
  | ofNat x => cases b with
    | ofNat y => show Nat.blt x y = _; rw [natBlt]; exact decide_eq_decide.2 ⟨fun h => by simp only [Int.ofNat_eq_natCast]; omega, fun h => by simp only [Int.ofNat_eq_natCast] at h; omega⟩
    | negSucc y => show false = _; exact (decide_eq_false (by simp only [Int.ofNat_eq_natCast]; omega)).symm
  | negSucc x => cases b with
    | ofNat y => show true = _; exact (decide_eq_true (by simp only [Int.ofNat_eq_natCast]; omega)).symm
    | negSucc y => show Nat.blt y x = _; rw [natBlt]; exact decide_eq_decide.2 ⟨fun h => by omega, fun h => by omega⟩
theorem kix_inj {i j : IntKind} (h : Nat.beq (kix i) (kix j) = true) : i = j := by
  cases i <;> cases j <;> first | rfl | cases h
theorem fit_wrap {i : IntKind} {n : Nat} (h : n ≤ kmax i) : IntKind.wrap i (Int.ofNat n) = Int.ofNat n := by
  have e : Int.ofNat n = (n : Int) := rfl
  rw [e]
  cases i
  · have : kmax .i8 = 127 := rfl
    exact IntWalk.i8_in _ (by omega)
  · have : kmax .i16 = 32767 := rfl
    exact IntWalk.i16_in _ (by omega)
  · have : kmax .i32 = 2147483647 := rfl
    exact IntWalk.i32_in _ (by omega)
  · have : kmax .i64 = 9223372036854775807 := rfl
    exact IntWalk.i64_in _ (by omega)
  · have : kmax .u8 = 255 := rfl
    exact IntWalk.u8_in _ (by omega)
  · have : kmax .u16 = 65535 := rfl
    exact IntWalk.u16_in _ (by omega)
  · have : kmax .u32 = 4294967295 := rfl
    exact IntWalk.u32_in _ (by omega)
  · have : kmax .u64 = 18446744073709551615 := rfl
    exact IntWalk.u64_in _ (by omega)
theorem fitK_true {i : IntKind} {n : Nat} {k : Int → R} (h : fitK i n k = true) : k (IntKind.wrap i (Int.ofNat n)) = true := by
  unfold fitK at h
  cases hb : Nat.ble n (kmax i) with
  | true => rw [hb] at h; rw [fit_wrap (Nat.le_of_ble_eq_true hb)]; exact h
  | false => rw [hb] at h; have h' : intF (IntKind.wrap i (Int.ofNat n)) k = true := h; rw [intF_eq] at h'; exact h'
theorem addI_true {i : IntKind} {a b : Int} {k : Int → R} (h : addI i a b k = true) : k (IntKind.wrap i (a + b)) = true := by
  cases a with
  | ofNat x => cases b with
    | ofNat y => exact fitK_true (show fitK i (Nat.add x y) k = true from h)
    | negSucc y => have h' : intF _ k = true := h; rw [intF_eq] at h'; exact h'
  | negSucc x => have h' : intF _ k = true := h; rw [intF_eq] at h'; exact h'
theorem subI_true {i : IntKind} {a b : Int} {k : Int → R} (h : subI i a b k = true) : k (IntKind.wrap i (a - b)) = true := by
  cases a with
  | ofNat x => cases b with
    | ofNat y =>
      have h' : ifK (Nat.ble y x) (fitK i (Nat.sub x y) k) (intF (IntKind.wrap i (Int.sub (Int.ofNat x) (Int.ofNat y))) k) = true := h
      cases hb : Nat.ble y x with
      | true =>
        rw [hb] at h'
        have hle := Nat.le_of_ble_eq_true hb
        have := fitK_true (show fitK i (Nat.sub x y) k = true from h')
        have e : Int.ofNat (Nat.sub x y) = Int.ofNat x - Int.ofNat y := by show ((x - y : Nat) : Int) = (x : Int) - (y : Int); omega
        rw [e] at this
        exact this
      | false => rw [hb] at h'; have h2 : intF _ k = true := h'; rw [intF_eq] at h2; exact h2
    | negSucc y => have h' : intF _ k = true := h; rw [intF_eq] at h'; exact h'
  | negSucc x => have h' : intF _ k = true := h; rw [intF_eq] at h'; exact h'
theorem mulI_true {i : IntKind} {a b : Int} {k : Int → R} (h : mulI i a b k = true) : k (IntKind.wrap i (a * b)) = true := by
  cases a with
  | ofNat x => cases b with
    | ofNat y => exact fitK_true (show fitK i (Nat.mul x y) k = true from h)
    | negSucc y => have h' : intF _ k = true := h; rw [intF_eq] at h'; exact h'
  | negSucc x => have h' : intF _ k = true := h; rw [intF_eq] at h'; exact h'

section
variable {P : Program} {n : Nat} {dst : Option Tmp} {ty : TypeId} {pos : String} {after : Array Edge} {guard : Option (Nat × Bool)}
theorem bin_of {op : BinOp} {xt yt : TypeId} {x y : Operand} {t : Operand → Value} {u v r : Value} (hx : t x = u) (hy : t y = v) (fu : free u = true) (fv : free v = true) (he : pureRun P (eqGuard op xt x y u v) = some ()) (hr : pureRun P (binOp op xt u v) = some r) (fr : free r = true) :
    opQ P t ⟨dst, .binOp op xt x y yt, ty, pos, after, guard⟩ = some r := by
  show (bif free (t x) && free (t y) then freeQ P t ⟨dst, .binOp op xt x y yt, ty, pos, after, guard⟩ else _) = some r
  rw [hx, hy, fu, fv]
  show freeQ P t ⟨dst, .binOp op xt x y yt, ty, pos, after, guard⟩ = some r
  unfold freeQ
  have e1 : (List.all (Oper.op ⟨dst, .binOp op xt x y yt, ty, pos, after, guard⟩).operands.toList fun z => free (t z)) = true := by
    show List.all [x, y] _ = true
    simp [hx, hy, fu, fv]
  have e2 : pureRun P (execOp t ⟨dst, .binOp op xt x y yt, ty, pos, after, guard⟩) = some (Next.value r) := by
    show pureRun P (Sem.bind (Sem.bind (eqGuard op xt x y (t x) (t y)) fun _ => binOp op xt (t x) (t y)) fun v => Sem.pure (Next.value v)) = _
    rw [hx, hy]
    exact pureRun_bind.2 ⟨r, pureRun_bind.2 ⟨(), he, hr⟩, rfl⟩
  rw [e1, e2]
  simp [isSel, fr]
theorem eqGuard_int (op : BinOp) (xt : TypeId) (x y : Operand) (i j : IntKind) (a b : Int) : pureRun P (eqGuard op xt x y (.int i a) (.int j b)) = some () := by
  unfold eqGuard; cases op <;> rfl
theorem eqGuard_str (op : BinOp) (xt : TypeId) (x y : Operand) (a b : ByteArray) : pureRun P (eqGuard op xt x y (.string a) (.string b)) = some () := by
  unfold eqGuard; cases op <;> rfl
/-- what an operator is at integers -/
def BinI (P : Program) (op : BinOp) (f : IntKind → Int → Int → Value) : Prop := ∀ (xt : TypeId) (i : IntKind) (a b : Int), pureRun P (binOp op xt (.int i a) (.int i b)) = some (f i a b)
theorem bin_eql : BinI P .eql fun _ a b => .bool (intEq a b) := by intro xt i a b; dsimp only; rw [intEq_eq]; cases i <;> rfl
theorem bin_neq : BinI P .neq fun _ a b => .bool (Bool.not (intEq a b)) := by intro xt i a b; dsimp only; rw [intEq_eq]; cases i <;> rfl
theorem bin_lss : BinI P .lss fun _ a b => .bool (intLt a b) := by intro xt i a b; dsimp only; rw [intLt_eq]; cases i <;> rfl
theorem bin_gtr : BinI P .gtr fun _ a b => .bool (intLt b a) := by intro xt i a b; dsimp only; rw [intLt_eq]; cases i <;> rfl
theorem not_lt_dec (a b : Int) : Bool.not (decide (b < a)) = decide (a ≤ b) := by
  by_cases h : b < a
  · rw [decide_eq_true h, decide_eq_false (by omega)]; rfl
  · rw [decide_eq_false h, decide_eq_true (by omega)]; rfl
theorem bin_leq : BinI P .leq fun _ a b => .bool (Bool.not (intLt b a)) := by intro xt i a b; simp only [intLt_eq, not_lt_dec]; cases i <;> rfl
theorem bin_geq : BinI P .geq fun _ a b => .bool (Bool.not (intLt a b)) := by intro xt i a b; simp only [intLt_eq, not_lt_dec]; cases i <;> rfl
theorem bin_add : BinI P .add fun i a b => .int i (IntKind.wrap i (a + b)) := by intro xt i a b; cases i <;> rfl
theorem bin_sub : BinI P .sub fun i a b => .int i (IntKind.wrap i (a - b)) := by intro xt i a b; cases i <;> rfl
theorem bin_mul : BinI P .mul fun i a b => .int i (IntKind.wrap i (a * b)) := by intro xt i a b; cases i <;> rfl
theorem rCmp_ok {op : BinOp} {f : Int → Int → Bool} (hf : BinI P op fun _ a b => .bool (f a b)) {xt yt : TypeId} {x y : Operand} {a b : Acc} (ha : AccOk n x a) (hb : AccOk n y b) (hk : okOp ⟨dst, .binOp op xt x y yt, ty, pos, after, guard⟩ = true) : QOk P n ⟨dst, .binOp op xt x y yt, ty, pos, after, guard⟩ (rCmp f a b) :=
  QOk.pure hk (fun _ => rfl) fun rec L F k t h1 h2 h => by
    obtain ⟨i, z, h3, h4⟩ := intK_true h
    obtain ⟨j, w, h5, h6⟩ := intK_true h4
    obtain ⟨h7, h8⟩ := ifK_true h6
    obtain rfl := kix_inj h7
    rw [boolF_eq] at h8
    have e1 : ev t x = .int i z := (ha L t h1 h2).symm.trans (by rw [h3]; rfl)
    have e2 : ev t y = .int i w := (hb L t h1 h2).symm.trans (by rw [h5]; rfl)
    exact ⟨.val (.bool (f z w)), bin_of e1 e2 rfl rfl (eqGuard_int ..) (hf xt i z w) rfl, h8⟩
theorem rArith_ok {op : BinOp} {f : IntKind → Int → Int → (Int → R) → R} {g : IntKind → Int → Int → Int} (hg : ∀ {i a b k}, f i a b k = true → k (IntKind.wrap i (g i a b)) = true) (hf : BinI P op fun i a b => .int i (IntKind.wrap i (g i a b))) {xt yt : TypeId} {x y : Operand} {a b : Acc} (ha : AccOk n x a) (hb : AccOk n y b) (hk : okOp ⟨dst, .binOp op xt x y yt, ty, pos, after, guard⟩ = true) : QOk P n ⟨dst, .binOp op xt x y yt, ty, pos, after, guard⟩ (rArith f a b) :=
  QOk.pure hk (fun _ => rfl) fun rec L F k t h1 h2 h => by
    obtain ⟨i, z, h3, h4⟩ := intK_true h
    obtain ⟨j, w, h5, h6⟩ := intK_true h4
    obtain ⟨h7, h8⟩ := ifK_true h6
    obtain rfl := kix_inj h7
    have e1 : ev t x = .int i z := (ha L t h1 h2).symm.trans (by rw [h3]; rfl)
    have e2 : ev t y = .int i w := (hb L t h1 h2).symm.trans (by rw [h5]; rfl)
    exact ⟨.val (.int i (IntKind.wrap i (g i z w))), bin_of e1 e2 rfl rfl (eqGuard_int ..) (hf xt i z w) rfl, hg h8⟩

/-- strings -/
theorem bytesOf_toList (m z : Nat) : (bytesOf m z).toList = (List.range m).map fun i => UInt8.ofNat (Nat.shiftRight z (8 * i)) := by rw [ByteArray.toList_eq]; rfl
theorem bytesOf_size (m z : Nat) : (bytesOf m z).size = m := by
  show (bytesOf m z).data.size = m
  simp [bytesOf]
theorem byte_eq (z i : Nat) : (UInt8.ofNat (Nat.shiftRight z (8 * i))).toNat = z / 2 ^ (8 * i) % 256 := by
  show (z >>> (8 * i)) % 2 ^ 8 = _
  rw [Nat.shiftRight_eq_div_pow]
theorem u8_ext {a b : Nat} (h : a % 256 = b % 256) : UInt8.ofNat a = UInt8.ofNat b := by
  apply UInt8.toNat_inj.1
  show a % 2 ^ 8 = b % 2 ^ 8
  exact h
/-- a number is told by its bytes -/
theorem bytes_num : ∀ (m z w : Nat), (∀ i, i < m → z / 2 ^ (8 * i) % 256 = w / 2 ^ (8 * i) % 256) ↔ z % 2 ^ (8 * m) = w % 2 ^ (8 * m)
  | 0, z, w => by simp [Nat.mod_one]
  | m + 1, z, w => by
    have hs : ∀ z : Nat, z % 2 ^ (8 * (m + 1)) = z % 256 + 256 * (z / 256 % 2 ^ (8 * m)) := by
      intro z
      rw [show 8 * (m + 1) = 8 + 8 * m by omega, Nat.pow_add, Nat.mod_mul]
    have hd : ∀ z i : Nat, z / 256 / 2 ^ (8 * i) = z / 2 ^ (8 * (i + 1)) := by
      intro z i
      rw [Nat.div_div_eq_div_mul, show 8 * (i + 1) = 8 + 8 * i by omega, Nat.pow_add]
    have ih := bytes_num m (z / 256) (w / 256)
    constructor
    · intro h
      have h0 := h 0 (by omega)
      simp at h0
      rw [hs, hs, h0, ih.1 (fun i hi => by rw [hd, hd]; exact h (i + 1) (by omega))]
    · intro h i hi
      rw [hs, hs] at h
      have h0 : z % 256 = w % 256 := by omega
      have h1 : z / 256 % 2 ^ (8 * m) = w / 256 % 2 ^ (8 * m) := by omega
      cases i with
      | zero => simpa using h0
      | succ i => rw [← hd, ← hd]; exact ih.2 h1 i (by omega)
theorem strEq_eq (m z q w : Nat) : strEq m z q w = ((bytesOf m z).toList == (bytesOf q w).toList) := by
  rw [Bool.eq_iff_iff, bytesOf_toList, bytesOf_toList]
  unfold strEq
  rw [Bool.and_eq_true, beq_iff_eq]
  constructor
  · rintro ⟨h1, h2⟩
    obtain rfl := beq_eq h1
    have h3 := (bytes_num m z w).2 (beq_eq h2)
    refine List.map_congr_left fun i hi => u8_ext ?_
    have := h3 i (List.mem_range.1 hi)
    rw [← Nat.shiftRight_eq_div_pow, ← Nat.shiftRight_eq_div_pow] at this
    exact this
  · intro h
    have hl := congrArg List.length h
    simp at hl
    subst hl
    refine ⟨Nat.beq_refl _, ?_⟩
    have : z % 2 ^ (8 * m) = w % 2 ^ (8 * m) := (bytes_num m z w).1 fun i hi => by
      have := congrArg (fun l : List UInt8 => l[i]?) h
      simp only [List.getElem?_map, List.getElem?_range hi, Option.map_some] at this
      injection this with this
      have := congrArg UInt8.toNat this
      rw [byte_eq, byte_eq] at this
      exact this
    exact Tr.beq_iff.2 this
theorem bin_str_eql (xt : TypeId) (s u : ByteArray) : pureRun P (binOp .eql xt (.string s) (.string u)) = some (.bool (s.toList == u.toList)) := by rw [binOp_string_eql]; rfl
theorem bin_str_neq (xt : TypeId) (s u : ByteArray) : pureRun P (binOp .neq xt (.string s) (.string u)) = some (.bool !(s.toList == u.toList)) := by rw [binOp_string_neq]; rfl
theorem rStrEq_ok {neg : Bool} {xt yt : TypeId} {x y : Operand} {a b : Acc} (ha : AccOk n x a) (hb : AccOk n y b) (hk : okOp ⟨dst, .binOp (bif neg then .neq else .eql) xt x y yt, ty, pos, after, guard⟩ = true) : QOk P n ⟨dst, .binOp (bif neg then .neq else .eql) xt x y yt, ty, pos, after, guard⟩ (rStrEq neg a b) :=
  QOk.pure hk (fun _ => rfl) fun rec L F k t h1 h2 h => by
    obtain ⟨i, z, h3, h4⟩ := strK_true h
    obtain ⟨j, w, h5, h6⟩ := strK_true h4
    rw [boolF_eq] at h6
    have e1 : ev t x = .string (bytesOf i z) := (ha L t h1 h2).symm.trans (by rw [h3]; rfl)
    have e2 : ev t y = .string (bytesOf j w) := (hb L t h1 h2).symm.trans (by rw [h5]; rfl)
    cases neg with
    | false => exact ⟨_, bin_of e1 e2 rfl rfl (eqGuard_str ..) (by rw [cond_false, bin_str_eql, ← strEq_eq]; rfl) rfl, h6⟩
    | true => exact ⟨_, bin_of e1 e2 rfl rfl (eqGuard_str ..) (by rw [cond_true, bin_str_neq, ← strEq_eq]; rfl) rfl, h6⟩
theorem cat_eq (m z q w : Nat) : bytesOf m z ++ bytesOf q w = bytesOf (m + q) (z % 2 ^ (8 * m) + w * 2 ^ (8 * m)) := by
  apply ByteArray.ext
  rw [ByteArray.data_append]
  apply Array.toList_inj.1
  rw [Array.toList_append]
  show (List.range m).map _ ++ (List.range q).map _ = (List.range (m + q)).map _
  have hpos : 0 < 2 ^ (8 * m) := Nat.two_pow_pos _
  apply List.ext_getElem?
  intro i
  by_cases hi : i < m
  · rw [List.getElem?_append_left (by simpa using hi), List.getElem?_map, List.getElem?_map, List.getElem?_range hi, List.getElem?_range (by omega)]
    simp only [Option.map_some]
    congr 1
    apply u8_ext
    show (z >>> (8 * i)) % 256 = ((z % 2 ^ (8 * m) + w * 2 ^ (8 * m)) >>> (8 * i)) % 256
    rw [Nat.shiftRight_eq_div_pow, Nat.shiftRight_eq_div_pow]
    refine (bytes_num m z _).2 ?_ i hi
    rw [Nat.add_mul_mod_self_right, Nat.mod_mod]
  · by_cases hq : i < m + q
    · rw [List.getElem?_append_right (by simpa using hi), List.getElem?_map, List.getElem?_map, List.length_map, List.length_range, List.getElem?_range (by omega), List.getElem?_range hq]
      simp only [Option.map_some]
      congr 1
      apply u8_ext
      show (w >>> (8 * (i - m))) % 256 = ((z % 2 ^ (8 * m) + w * 2 ^ (8 * m)) >>> (8 * i)) % 256
      rw [Nat.shiftRight_eq_div_pow, Nat.shiftRight_eq_div_pow]
      have e : 2 ^ (8 * i) = 2 ^ (8 * m) * 2 ^ (8 * (i - m)) := by rw [← Nat.pow_add]; congr 1; omega
      rw [e, ← Nat.div_div_eq_div_mul, Nat.add_mul_div_right _ _ hpos, Nat.div_eq_of_lt (Nat.mod_lt _ hpos), Nat.zero_add]
    · rw [List.getElem?_eq_none (by simp; omega), List.getElem?_eq_none (by simp; omega)]
theorem rCat_ok {xt yt : TypeId} {x y : Operand} {a b : Acc} (ha : AccOk n x a) (hb : AccOk n y b) (hk : okOp ⟨dst, .binOp .add xt x y yt, ty, pos, after, guard⟩ = true) : QOk P n ⟨dst, .binOp .add xt x y yt, ty, pos, after, guard⟩ (rCat a b) :=
  QOk.pure hk (fun _ => rfl) fun rec L F k t h1 h2 h => by
    obtain ⟨i, z, h3, h4⟩ := strK_true h
    obtain ⟨j, w, h5, h6⟩ := strK_true h4
    obtain ⟨h7, h8⟩ := ifK_true (show ifK (Nat.ble (Nat.add i j) 9223372036854775807) _ bad = true from h6)
    have hle : i + j ≤ 9223372036854775807 := Nat.le_of_ble_eq_true h7
    have e1 : ev t x = .string (bytesOf i z) := (ha L t h1 h2).symm.trans (by rw [h3]; rfl)
    have e2 : ev t y = .string (bytesOf j w) := (hb L t h1 h2).symm.trans (by rw [h5]; rfl)
    refine ⟨_, (bin_of e1 e2 rfl rfl (eqGuard_str ..) (r := .string (bytesOf i z ++ bytesOf j w)) ?_ rfl).trans (by rw [cat_eq]; rfl), h8⟩
    · rw [binOp_string_add]
      unfold Op.stringOp
      dsimp only
      rw [if_neg (by rw [bytesOf_size, bytesOf_size]; have : IntKind.i64.max = 9223372036854775807 := (by decide); rw [this]; omega)]
      rfl
theorem rByte_ok {xt : TypeId} {x y : Operand} {a b : Acc} (hu : P.underlying xt = some .string) (ha : AccOk n x a) (hb : AccOk n y b) (hk : okOp ⟨dst, .index xt x y, ty, pos, after, guard⟩ = true) : QOk P n ⟨dst, .index xt x y, ty, pos, after, guard⟩ (rByte a b) :=
  QOk.pure hk (fun _ => rfl) fun rec L F k t h1 h2 h => by
    obtain ⟨m, z, h3, h4⟩ := strK_true h
    obtain ⟨j, w, h5, h6⟩ := intK_true h4
    obtain ⟨i, rfl, h7⟩ := natV_true h6
    obtain ⟨h8, h9⟩ := ifK_true h7
    have hi := blt_lt h8
    have e1 := ha L t h1 h2
    have e2 := hb L t h1 h2
    rw [h3] at e1
    rw [h5] at e2
    refine ⟨_, ?_, h9⟩
    show (match ev t x with | .agg _ => _ | _ => freeQ P (ev t) _) = _
    rw [← e1]
    show freeQ P (ev t) ⟨dst, .index xt x y, ty, pos, after, guard⟩ = _
    unfold freeQ
    have e3 : (List.all (Oper.op ⟨dst, .index xt x y, ty, pos, after, guard⟩).operands.toList fun z => free (ev t z)) = true := by
      show List.all [x, y] _ = true
      simp [← e1, ← e2, SV.up, FV.up, free, freeD, leafFree]
    have hget : (bytesOf m z)[i]? = some (UInt8.ofNat (Nat.shiftRight z (8 * i))) := by
      rw [ByteArray.getElem?_lt' _ _ (by rw [bytesOf_size]; exact hi)]
      simp only [bytesOf, ByteArray.getElem_eq_getElem_data]
      simp
    have e4 : pureRun P (execOp (ev t) ⟨dst, .index xt x y, ty, pos, after, guard⟩) = some (.value (.int .u8 (Int.ofNat ((z >>> (8 * i)) % 256)))) := by
      show pureRun P (Sem.bind (Instr.index xt (ev t x) (ev t y)) fun v => Sem.pure (Next.value v)) = _
      rw [← e1, ← e2]
      refine pureRun_bind.2 ⟨.int .u8 (Int.ofNat ((z >>> (8 * i)) % 256)), ?_, rfl⟩
      unfold Instr.index
      refine pureRun_bind.2 ⟨(j, Int.ofNat i), rfl, pureRun_bind.2 ⟨_, run_und hu, ?_⟩⟩
      show pureRun P (match (if 0 ≤ Int.ofNat i then (bytesOf m z)[(Int.ofNat i).toNat]? else none) with | some b => _ | none => _) = _
      rw [if_pos (show (0 : Int) ≤ Int.ofNat i from Int.natCast_nonneg i), show (Int.ofNat i).toNat = i from rfl, hget]
      rfl
    rw [e3, e4]
    rfl
theorem sub_eq {m z l h : Nat} (hl : l ≤ h) (hm : h ≤ m) : (bytesOf m z).extract l h = bytesOf (h - l) ((z >>> (8 * l)) % 2 ^ (8 * (h - l))) := by
  apply ByteArray.ext
  rw [ByteArray.data_extract]
  apply Array.toList_inj.1
  show (Array.extract ⟨(List.range m).map _⟩ l h).toList = (List.range (h - l)).map _
  rw [List.extract_toArray]
  simp only [List.extract_eq_take_drop]
  apply List.ext_getElem?
  intro i
  by_cases hi : i < h - l
  · rw [List.getElem?_take_of_lt hi, List.getElem?_drop, List.getElem?_map, List.getElem?_map, List.getElem?_range (by omega), List.getElem?_range hi]
    simp only [Option.map_some]
    congr 1
    apply u8_ext
    show (z >>> (8 * (l + i))) % 256 = (((z >>> (8 * l)) % 2 ^ (8 * (h - l))) >>> (8 * i)) % 256
    rw [Nat.mul_add, Nat.shiftRight_add, Nat.shiftRight_eq_div_pow _ (8 * i), Nat.shiftRight_eq_div_pow _ (8 * i)]
    exact (bytes_num (h - l) _ _).2 (by rw [Nat.mod_mod]) i hi
  · rw [List.getElem?_eq_none (by simp; omega), List.getElem?_eq_none (by simp; omega)]
end
end
end Go.Proofs.YtfeppmhcpfccfaaGreatDoor.Fast
/- A fast evaluator, part G: memory. Of no program. -/
namespace Go.Proofs.YtfeppmhcpfccfaaGreatDoor.Fast
open Go Go.RowKit Go.Proofs.YtfeppmhcpfccfaaGreatDoor.Sim
noncomputable section
section
variable {P : Program} {B : Nat} {w0 : Base} {n : Nat} {dst : Option Tmp} {ty : TypeId} {pos : String} {after : Array Edge} {guard : Option (Nat × Bool)}
theorem load_one {s : TypeId} {A : AW} {b o : Nat} {v : Value} (hs : aggB P s = some false) (hc : cellsA A b o 1 = some [v]) : loadL P A s (.pointer (some ⟨b, o, none⟩)) = some ((b, o, [v]), v) := by
  unfold aggB at hs
  unfold loadL
  cases hu : P.underlying s with
  | none => rw [hu] at hs; cases hs
  | some d =>
    rw [hu] at hs
    cases d <;> first
      | (cases hs; done)
      | (dsimp only; rw [hc])
theorem load_all {s : TypeId} {A : AW} {b o : Nat} {l : List Value} (hs : aggB P s = some true) (hc : cellsA A b o (sizeB P s) = some l) (hi : ∃ i, P.info? s = some i) : loadL P A s (.pointer (some ⟨b, o, none⟩)) = some ((b, o, l), .agg l.toArray) := by
  unfold aggB at hs
  unfold loadL
  obtain ⟨i, hi⟩ := hi
  have hz : sizeB P s = i.size := by unfold sizeB; rw [hi]
  rw [hz] at hc
  cases hu : P.underlying s with
  | none => rw [hu] at hs; cases hs
  | some d =>
    rw [hu] at hs
    cases d <;> first
      | (cases hs; done)
      | (dsimp only; rw [hi]; dsimp only; rw [hc])
theorem opM_load {s : TypeId} {x : Operand} {t : Operand → Value} {A : AW} {h : Held} {v : Value} (hl : loadL P A s (t x) = some (h, v)) : opM P t A ⟨dst, .load s x, ty, pos, after, guard⟩ = some v := by
  show (match loadL P A s (t x) with | some (_, v) => some v | none => none) = some v
  rw [hl]
theorem rLoad_ok {s : TypeId} {x : Operand} {a : Acc} (hs : aggB P s = some false) (ha : AccOk n x a) (hk : okOp ⟨dst, .load s x, ty, pos, after, guard⟩ = true) : QOk P n ⟨dst, .load s x, ty, pos, after, guard⟩ (rLoad a) :=
  QOk.val fun rec L F k t A h1 h2 hM h => by
    obtain ⟨b, o, h3, h4⟩ := ptrK_true h
    obtain ⟨hb, rows, m, esz, e, fam, ro, h5, h6⟩ := blkK_true h4
    obtain ⟨c, hc⟩ := hM.at hb h5
    obtain ⟨h7, h8⟩ := inB_true h6
    rw [fvF_eq, wCell_get h7 hc.h0 hc.h1 hc.h2] at h8
    have e1 := ha L t h1 h2
    rw [h3] at e1
    have hcell : cellsA A b o 1 = some [(cellAt rows esz o).up] := hc.cells (by omega) rfl fun p hp => by
      have : p = 0 := by omega
      subst this; rfl
    refine ⟨_, quiet_mem hk rfl (opM_load (t := ev t) (by rw [← e1]; exact load_one hs hcell)), _, F, rfl, hM, h8⟩
theorem rLoadN_ok {s : TypeId} {x : Operand} {a : Acc} (hs : aggB P s = some true) (hi : ∃ i, P.info? s = some i) (ha : AccOk n x a) (hk : okOp ⟨dst, .load s x, ty, pos, after, guard⟩ = true) : QOk P n ⟨dst, .load s x, ty, pos, after, guard⟩ (rLoadN (sizeB P s) a) :=
  QOk.val fun rec L F k t A h1 h2 hM h => by
    obtain ⟨b, o, h3, h4⟩ := ptrK_true h
    obtain ⟨hb, rows, m, esz, e, fam, ro, h5, h6⟩ := blkK_true h4
    obtain ⟨c, hc⟩ := hM.at hb h5
    obtain ⟨r, g1, g2, g3⟩ := subK_true hc.h0 hc.h1 hc.h2 h6
    have e1 := ha L t h1 h2
    rw [h3] at e1
    have hcell : cellsA A b o (sizeB P s) = some (rowL r (sizeB P s)) := hc.cells g2 (rowL_len _ _) fun p hp => by
      rw [rowL_get, if_pos hp, (g3 p hp).2]
    refine ⟨_, quiet_mem hk rfl (opM_load (t := ev t) (by rw [← e1]; exact load_all hs hcell hi)), _, F, rfl, hM, g1⟩

/-- stores -/
theorem AW.store_at {A : AW} {b o : Nat} {c : Array Value} {e : TypeId} {f : Nat × Nat} {fam : Bool} (hb : A.heap.get b = some ⟨.cells c e f, fam, false⟩) (ho : o < c.size) (v : Value) : A.store ⟨b, o, none⟩ v = some (A.put b (some ⟨.cells (c.setIfInBounds o v) e f, fam, false⟩)) := by
  unfold AW.store
  rw [hb]
  have : Nat.blt o c.size = true := Nat.ble_eq_true_of_le ho
  simp [this]
theorem run_storeCells {b o : Nat} (hb : b < 262144) {e : TypeId} {f : Nat × Nat} {fam : Bool} : ∀ (l : List Value) (i : Nat) (A : AW) (c : Array Value), A.heap.get b = some ⟨.cells c e f, fam, false⟩ → o + i + l.length ≤ c.size → (∀ v ∈ l, oneB v = true) →
    ∃ A' c', runA P (storeCells ⟨b, o, none⟩ l i) A = some ((), A') ∧ A'.next = A.next ∧ (∀ d, d ≠ b → A'.heap.get d = A.heap.get d) ∧ A'.heap.get b = some ⟨.cells c' e f, fam, false⟩ ∧ c'.size = c.size ∧ ∀ p, c'[p]? = if o + i ≤ p ∧ p < o + i + l.length then l[p - (o + i)]? else c[p]?
  | [], i, A, c, hc, _, _ => ⟨A, c, rfl, rfl, fun _ _ => rfl, hc, rfl, fun p => by rw [if_neg (by simp only [List.length_nil]; omega)]⟩
  | v :: l, i, A, c, hc, hle, hone => by
    have hv := hone v List.mem_cons_self
    simp only [List.length_cons] at hle
    have hlt : o + i < c.size := by omega
    have hst := AW.store_at (o := o + i) hc hlt v
    have hget : (A.put b (some ⟨.cells (c.setIfInBounds (o + i) v) e f, fam, false⟩)).heap.get b = some ⟨.cells (c.setIfInBounds (o + i) v) e f, fam, false⟩ := by rw [AW.put_at hb, if_pos rfl]
    obtain ⟨A', c', g1, g2, g3, g4, g5, g6⟩ := run_storeCells (o := o) hb l (i + 1) _ _ hget (by rw [Array.size_setIfInBounds]; omega) (fun u hu => hone u (List.mem_cons_of_mem _ hu))
    refine ⟨A', c', ?_, g2, fun d hd => by rw [g3 d hd, AW.put_at hb, if_neg hd], g4, by rw [g5, Array.size_setIfInBounds], fun p => ?_⟩
    · show runA P (Sem.bind (store ((⟨b, o, none⟩ : Addr).add i) v) fun _ => storeCells ⟨b, o, none⟩ l (i + 1)) A = _
      rw [add_none]
      have : runA P (store ⟨b, o + i, none⟩ v) A = some ((), A.put b (some ⟨.cells (c.setIfInBounds (o + i) v) e f, fam, false⟩)) := by
        unfold store
        cases v <;> first
          | (cases hv; done)
          | (simp only [runA]; rw [hst])
      rw [runA_bind, this]
      exact g1
    · rw [g6 p, Array.getElem?_setIfInBounds]
      simp only [List.length_cons]
      by_cases h1 : p = o + i
      · subst h1
        rw [if_neg (by omega), if_pos rfl, if_pos (by omega), if_pos (by omega), Nat.sub_self]
        rfl
      · by_cases h2 : o + (i + 1) ≤ p ∧ p < o + (i + 1) + l.length
        · rw [if_pos h2, if_pos (by omega), show p - (o + i) = p - (o + (i + 1)) + 1 by omega, List.getElem?_cons_succ]
        · rw [if_neg h2, if_neg (fun e => h1 e.symm), if_neg (by omega)]
theorem run_storeAt {s : TypeId} {i : TypeInfo} (hi : P.info? s = some i) {b o : Nat} {v : Value} (hv : v.cells.size = i.size) (A : AW) : runA P (Instr.storeAt s (.pointer (some ⟨b, o, none⟩)) v) A = runA P (storeCells ⟨b, o, none⟩ v.cells.toList) A := by
  unfold Instr.storeAt storeVar
  simp only [Instr.sureAddr, Bind.bind, Pure.pure, Sem.bind, runA, sizeOf, typeInfo, program, hi]
  rw [if_neg (by rw [hv]; simp)]
theorem oneB_cells {v : Value} (h : oneB v = true) : v.cells = #[v] := by cases v <;> first | rfl | cases h
theorem opA_store {s : TypeId} {x y : Operand} {t : Operand → Value} {A A' : AW} (hk : okOp ⟨dst, .store s x y, ty, pos, after, guard⟩ = true) (h : runA P (Instr.storeAt s (t x) (t y)) A = some ((), A')) : opA P t ⟨dst, .store s x y, ty, pos, after, guard⟩ A = some (.skip, A') := by
  unfold opA
  rw [hk, cond_true]
  dsimp only
  rw [h]
theorem rStore_ok {s : TypeId} {x y : Operand} {a a' : Acc} {i : TypeInfo} (hi : P.info? s = some i) (hz : i.size = 1) (ha : AccOk n x a) (hb' : AccOk n y a') (hk : okOp ⟨dst, .store s x y, ty, pos, after, guard⟩ = true) : LOk P B w0 n ⟨dst, .store s x y, ty, pos, after, guard⟩ (rStore a a') := by
  intro rec L F k t A hR h1 h2 hM h
  obtain ⟨b, o, h3, h4⟩ := ptrK_true h
  obtain ⟨u, h5, h6⟩ := valK_true h4
  obtain ⟨hb, rows, m, esz, e, fam, ro, h7, h8⟩ := blkK_true h6
  obtain ⟨h9, h10⟩ := ifK_true h8
  obtain ⟨h11, h12⟩ := inB_true h10
  obtain ⟨c, hc⟩ := hM.at hb h7
  rw [wCell_put h11 hc.h0 hc.h1 hc.h2] at h12
  have h13 := putF_true hb h12
  have hro : ro = false := by cases ro <;> first | rfl | cases h9
  subst hro
  have e1 := ha L t h1 h2
  have e2 := hb' L t h1 h2
  rw [h3] at e1
  rw [h5] at e2
  have hcs := oneB_cells (up_one u)
  obtain ⟨A', c', g1, g2, g3, g4, g5, g6⟩ := run_storeCells (P := P) (o := o) hb u.up.cells.toList 0 A c hc.get (by rw [hcs, hc.size]; simp; omega) (by rw [hcs]; intro v hv; simp at hv; rw [hv]; exact up_one u)
  have hrun : runA P (Instr.storeAt s (ev t x) (ev t y)) A = some ((), A') := by
    rw [← e1, ← e2]
    show runA P (Instr.storeAt s (.pointer (some ⟨b, o, none⟩)) u.up) A = _
    rw [run_storeAt hi (by rw [hcs, hz]; rfl)]
    exact g1
  rw [opA_store hk hrun]
  refine ⟨u0, _, rfl, hM.put hb g2 ?_ g3, h13⟩
  rw [g4]
  refine .blk hc.h0 hc.h1 hc.h2 (by rw [g5]; exact hc.size) fun j hj => ?_
  rw [g6 j, cell_set h11 hc.h0 hc.h1 hc.h2 _ _ hj]
  rw [hcs]
  by_cases hjo : j = o
  · subst hjo
    rw [if_pos (by simp), if_pos rfl]
    simp
  · rw [if_neg (by simp; omega), if_neg hjo]
    exact hc.cell j hj
theorem rStoreN_ok {s : TypeId} {x y : Operand} {a a' : Acc} {i : TypeInfo} (hi : P.info? s = some i) (hpos : 0 < i.size) (ha : AccOk n x a) (hb' : AccOk n y a') (hk : okOp ⟨dst, .store s x y, ty, pos, after, guard⟩ = true) : LOk P B w0 n ⟨dst, .store s x y, ty, pos, after, guard⟩ (rStoreN i.size a a') := by
  intro rec L F k t A hR h1 h2 hM h
  obtain ⟨b, o, h3, h4⟩ := ptrK_true h
  obtain ⟨m', g, h5, h6⟩ := rowK_true h4
  obtain ⟨h5', h6'⟩ := ifK_true h6
  clear h6
  have hm' := beq_eq h5'
  subst hm'
  obtain ⟨hb, rows, m, esz, e, fam, ro, h7, h8⟩ := blkK_true h6'
  clear h6' h4 h
  obtain ⟨h9, h10⟩ := ifK_true h8
  obtain ⟨h11, h12⟩ := inB_true h10
  obtain ⟨c, hc⟩ := hM.at hb h7
  have hro : ro = false := by cases ro <;> first | rfl | cases h9
  subst hro
  have e1 := ha L t h1 h2
  have e2 := hb' L t h1 h2
  rw [h3] at e1
  rw [h5] at e2
  have hd := div_lt_of h11
  have hmd := Nat.mod_lt o hc.h0
  have hdm : o / esz * esz + o % esz = o := by rw [Nat.mul_comm]; exact Nat.div_add_mod o esz
  have hle : o / esz * esz + esz ≤ m * esz := by rw [← Nat.succ_mul]; exact Nat.mul_le_mul_right _ hd
  -- the new rows
  obtain ⟨rows', hk', hfit, hcell⟩ : ∃ rows', k u0 ⟨Lh.set b (.blk rows' m esz e fam false) F.heap, F.next⟩ = true ∧ o + i.size ≤ m * esz ∧ ∀ j, j < m * esz → (cellAt rows' esz j) = if o ≤ j ∧ j < o + i.size then Lr.get (j - o) g else cellAt rows esz j := by
    have h1' := hc.h1
    have h2' := hc.h2
    cases hq : (Nat.beq i.size esz && aligned o esz) with
    | true =>
      rw [hq] at h12
      rw [Bool.and_eq_true] at hq
      have q1 := beq_eq hq.1
      have q2 : o % esz = 0 := beq_eq hq.2
      have h13 : (w512 Ro (o / esz)).put g rows (fun rows => putF b (.blk rows m esz e fam false) F fun F => k u0 F) = true := h12
      rw [w512_put (by omega)] at h13
      refine ⟨_, putF_true hb h13, by omega, fun j hj => ?_⟩
      rw [row_set hd hc.h0 hc.h2 _ _ hj]
      have hdj : j / esz * esz + j % esz = j := by rw [Nat.mul_comm]; exact Nat.div_add_mod j esz
      have hmj := Nat.mod_lt j hc.h0
      by_cases hje : j / esz = o / esz
      · rw [if_pos hje]
        rw [hje] at hdj
        rw [if_pos (by omega), show j - o = j % esz by omega]
      · rw [if_neg hje, if_neg]
        rintro ⟨r1, r2⟩
        apply hje
        have : j = o / esz * esz + (j - o) := by omega
        rw [this]
        exact div_of (by omega)
    | false =>
      rw [hq] at h12
      obtain ⟨q1, h13⟩ := ifK_true (show ifK (Nat.ble (Nat.add (Nat.mod o esz) i.size) esz) _ bad = true from h12)
      have q1' : o % esz + i.size ≤ esz := Nat.le_of_ble_eq_true q1
      have h14 : copyC i.size 0 (o % esz) g ((w512 Ro (o / esz)).get rows) (fun r => (w512 Ro (o / esz)).put r rows fun rows => putF b (.blk rows m esz e fam false) F fun F => k u0 F) = true := h13
      rw [w512_get (by omega)] at h14
      obtain ⟨r, r1, r2⟩ := copyC_true _ _ _ _ _ _ (by omega) (by omega) h14
      rw [w512_put (by omega)] at r1
      refine ⟨_, putF_true hb r1, by omega, fun j hj => ?_⟩
      rw [row_set hd hc.h0 hc.h2 _ _ hj]
      have hdj : j / esz * esz + j % esz = j := by rw [Nat.mul_comm]; exact Nat.div_add_mod j esz
      have hmj := Nat.mod_lt j hc.h0
      by_cases hje : j / esz = o / esz
      · rw [if_pos hje, r2 _ (by omega)]
        rw [hje] at hdj
        by_cases hin : o ≤ j ∧ j < o + i.size
        · rw [if_pos (by omega), if_pos hin, show 0 + (j % esz - o % esz) = j - o by omega]
        · rw [if_neg (by omega), if_neg hin]
          unfold cellAt
          rw [hje]
      · rw [if_neg hje, if_neg]
        rintro ⟨s1, s2⟩
        apply hje
        have : j = o / esz * esz + (o % esz + (j - o)) := by omega
        rw [this]
        exact div_of (by omega)
  have hcs : (Value.agg ⟨rowL g i.size⟩).cells.toList = rowL g i.size := rfl
  have hlen : (rowL g i.size).length = i.size := rowL_len _ _
  obtain ⟨A', c', g1, g2, g3, g4, g5, g6⟩ := run_storeCells (P := P) (o := o) hb (rowL g i.size) 0 A c hc.get (by rw [hlen, hc.size]; omega) (by
    intro v hv
    unfold rowL at hv
    obtain ⟨p, _, rfl⟩ := List.mem_map.1 hv
    exact up_one _)
  have hrun : runA P (Instr.storeAt s (ev t x) (ev t y)) A = some ((), A') := by
    rw [← e1, ← e2]
    show runA P (Instr.storeAt s (.pointer (some ⟨b, o, none⟩)) (.agg ⟨rowL g i.size⟩)) A = _
    rw [run_storeAt hi (by show (rowL g i.size).toArray.size = _; simp [hlen])]
    exact g1
  rw [opA_store hk hrun]
  refine ⟨u0, _, rfl, hM.put hb g2 ?_ g3, hk'⟩
  rw [g4]
  refine .blk hc.h0 hc.h1 hc.h2 (by rw [g5]; exact hc.size) fun j hj => ?_
  rw [g6 j, hcell j hj, hlen]
  by_cases hin : o ≤ j ∧ j < o + i.size
  · rw [if_pos (by omega), if_pos hin, rowL_get, if_pos (by omega), Nat.add_zero]
  · rw [if_neg (by omega), if_neg hin]
    exact hc.cell j hj
end
end
end Go.Proofs.YtfeppmhcpfccfaaGreatDoor.Fast
/- A fast evaluator, part H: values as cells; literals; blocks that are made; addresses. Of no program. -/
namespace Go.Proofs.YtfeppmhcpfccfaaGreatDoor.Fast
open Go Go.RowKit Go.Proofs.YtfeppmhcpfccfaaGreatDoor.Sim
noncomputable section

/-- a string of bytes is told by its number -/
theorem strN_bytes : ∀ (l : List UInt8), (List.range l.length).map (fun i => UInt8.ofNat (Nat.shiftRight (strN l) (8 * i))) = l
  | [] => rfl
  | a :: l => by
    have ih := strN_bytes l
    rw [List.length_cons, List.range_succ_eq_map, List.map_cons, List.map_map]
    have e : strN (a :: l) = a.toNat + 256 * strN l := rfl
    have ha : a.toNat < 256 := a.toNat_lt
    congr 1
    · show UInt8.ofNat (strN (a :: l) >>> 0) = a
      rw [Nat.shiftRight_zero, e]
      apply UInt8.toNat_inj.1
      show (a.toNat + 256 * strN l) % 2 ^ 8 = a.toNat
      omega
    · conv => rhs; rw [← ih]
      refine List.map_congr_left fun i _ => ?_
      show UInt8.ofNat (strN (a :: l) >>> (8 * (i + 1))) = UInt8.ofNat (strN l >>> (8 * i))
      rw [e, Nat.shiftRight_eq_div_pow, Nat.shiftRight_eq_div_pow, show 8 * (i + 1) = 8 + 8 * i by omega, Nat.pow_add, ← Nat.div_div_eq_div_mul]
      congr 2
      show (a.toNat + 256 * strN l) / 2 ^ 8 = strN l
      omega
theorem fvOf_up {v : Value} (h : oneB v = true) : (fvOf v).up = v := by
  unfold fvOf
  split
  · rfl
  · rfl
  · rename_i s
    show Value.string (bytesOf s.data.toList.length (strN s.data.toList)) = .string s
    unfold bytesOf
    rw [strN_bytes]
  · rfl
  · rfl
  · rfl
  · rfl
  · rfl
  · exact oneV_eq h
theorem fvP_true {v : Value} {k : FV → R} (h : fvP v k = true) : ∃ x : FV, x.up = v ∧ k x = true := by
  cases v with
  | bool b => cases b <;> exact ⟨_, rfl, h⟩
  | int i z =>
    have h' : intF z (fun z => k (.int i z)) = true := h
    rw [intF_eq] at h'
    exact ⟨_, rfl, h'⟩
  | string s => exact ⟨.str s.data.toList.length (strN s.data.toList), fvOf_up (v := .string s) rfl, h⟩
  | pointer a => cases a with
    | none => exact ⟨.val (.pointer none), rfl, h⟩
    | some a =>
      obtain ⟨b, o, sp⟩ := a
      cases sp with
      | none => exact ⟨.ptr b o, rfl, h⟩
      | some sp => exact ⟨.val (.pointer (some ⟨b, o, some sp⟩)), rfl, h⟩
  | slice a n c => cases a with
    | none => exact ⟨.nilS n c, rfl, h⟩
    | some a =>
      obtain ⟨b, o, sp⟩ := a
      cases sp with
      | none => exact ⟨.slc b o n c, rfl, h⟩
      | some sp => exact ⟨.val (.slice (some ⟨b, o, some sp⟩) n c), rfl, h⟩
  | map r => cases r with
    | none => exact ⟨.val (.map none), rfl, h⟩
    | some r => exact ⟨.map r, rfl, h⟩
  | func fn f c =>
    obtain ⟨f⟩ := f
    obtain ⟨c⟩ := c
    cases fn with
    | func g => exact ⟨.fn g f c, rfl, h⟩
    | method m => exact ⟨.val (.func (.method m) ⟨f⟩ ⟨c⟩), rfl, h⟩
    | methodOf a b => exact ⟨.val (.func (.methodOf a b) ⟨f⟩ ⟨c⟩), rfl, h⟩
    | via a b d e => exact ⟨.val (.func (.via a b d e) ⟨f⟩ ⟨c⟩), rfl, h⟩
    | yield l => exact ⟨.val (.func (.yield l) ⟨f⟩ ⟨c⟩), rfl, h⟩
  | agg c => exact not_bad h
  | tuple c => exact not_bad h
  | float a b => exact ⟨.val (.float a b), rfl, h⟩
  | complex a b c => exact ⟨.val (.complex a b c), rfl, h⟩
  | chan r => exact ⟨.val (.chan r), rfl, h⟩
  | nilFunc => exact ⟨.val .nilFunc, rfl, h⟩
  | iface t v => exact ⟨.val (.iface t v), rfl, h⟩
  | nilIface => exact ⟨.val .nilIface, rfl, h⟩
theorem rowOf_get : ∀ (l : List Value) (i : Nat) (f : Ro) (p : Nat), i + l.length ≤ 64 → p < 64 → Lr.get p (rowOf l i f) = if h : i ≤ p ∧ p < i + l.length then fvOf (l[p - i]'(by omega)) else Lr.get p f
  | [], i, f, p, _, _ => by rw [dif_neg (by simp only [List.length_nil]; omega)]; rfl
  | v :: l, i, f, p, hl, hp => by
    simp only [List.length_cons] at hl
    have ih := rowOf_get l (i + 1) (Lr.set i (fvOf v) f) p (by omega) hp
    show Lr.get p (rowOf l (i + 1) (Lr.set i (fvOf v) f)) = _
    rw [ih]
    by_cases h : i + 1 ≤ p ∧ p < i + 1 + l.length
    · rw [dif_pos h, dif_pos (by simp only [List.length_cons]; omega)]
      congr 1
      rw [List.getElem_cons, dif_neg (by omega)]
      congr 1
    · rw [dif_neg h, Lr_set _ _ (by omega) hp]
      by_cases he : p = i
      · subst he
        rw [if_pos rfl, dif_pos (by simp only [List.length_cons]; omega)]
        simp only [Nat.sub_self, List.getElem_cons_zero]
      · rw [if_neg he, dif_neg (by simp only [List.length_cons]; omega)]
theorem rowOf_up {l : List Value} (hl : l.length ≤ 64) (h1 : ∀ v ∈ l, oneB v = true) {p : Nat} (hp : p < l.length) (f : Ro) : l[p]? = some (Lr.get p (rowOf l 0 f)).up := by
  rw [rowOf_get l 0 f p (by omega) (by omega), dif_pos (by omega), fvOf_up (h1 _ (List.getElem_mem _)), List.getElem?_eq_getElem hp]
  simp
theorem rowsOf_get (s : Nat) : ∀ (m : Nat) (l : List Value) (i : Nat) (r : Rows) (q : Nat), i + m ≤ 512 → q < 512 → Lw.get q (rowsOf s m l i r) = if i ≤ q ∧ q < i + m then rowOf ((l.drop ((q - i) * s)).take s) 0 row0 else Lw.get q r
  | 0, l, i, r, q, _, _ => by rw [if_neg (by omega)]; rfl
  | m + 1, l, i, r, q, hm, hq => by
    show Lw.get q (rowsOf s m (l.drop s) (i + 1) (Lw.set i (rowOf (l.take s) 0 row0) r)) = _
    rw [rowsOf_get s m _ _ _ q (by omega) hq]
    by_cases h : i + 1 ≤ q ∧ q < i + 1 + m
    · rw [if_pos h, if_pos (by omega), List.drop_drop]
      congr 3
      have : q - i = (q - (i + 1)) + 1 := by omega
      rw [this, Nat.add_mul]
      omega
    · rw [if_neg h, Lw_set _ _ (by omega) hq]
      by_cases he : q = i
      · subst he
        rw [if_pos rfl, if_pos (by omega), Nat.sub_self, Nat.zero_mul]
        rfl
      · rw [if_neg he, if_neg (by omega)]
theorem rowsOf_cell {s m : Nat} {l : List Value} (hs : 0 < s) (hs2 : s ≤ 64) (hm : m ≤ 512) (hl : l.length = m * s) (h1 : ∀ v ∈ l, oneB v = true) {j : Nat} (hj : j < m * s) (r : Rows) : l[j]? = some (cellAt (rowsOf s m l 0 r) s j).up := by
  have hd := div_lt_of hj
  have hmod := Nat.mod_lt j hs
  have hdm : j / s * s + j % s = j := by rw [Nat.mul_comm]; exact Nat.div_add_mod j s
  have hle : j / s * s + s ≤ m * s := by rw [← Nat.succ_mul]; exact Nat.mul_le_mul_right _ hd
  unfold cellAt
  generalize j / s = q at *
  generalize j % s = r' at *
  rw [rowsOf_get s m l 0 r _ (by omega) (by omega), if_pos (by omega), Nat.sub_zero]
  have hlen : ((l.drop (q * s)).take s).length = s := by rw [List.length_take, List.length_drop]; omega
  rw [← rowOf_up (by omega) (fun v hv => h1 v (List.mem_of_mem_drop (List.mem_of_mem_take hv))) (by omega) row0, List.getElem?_take_of_lt hmod, List.getElem?_drop, hdm]
theorem one_row (f : Ro) : Lw.get 0 (one f) = f := rfl
theorem one_cell (f : Ro) {m j : Nat} (h : j < m) : cellAt (one f) m j = Lr.get j f := by
  unfold cellAt
  rw [Nat.div_eq_of_lt h, Nat.mod_eq_of_lt h, one_row]
theorem cell1_at (v : FV) : Lr.get 0 (cell1 v) = v := rfl
theorem r8_at {α : Type} (x : α) (q : Nat) (hq : q < 512) : (L512 α).get q (r8 (r8 (r8 x))) = x := by
  show (L64 α).get (q % 64) ((L8 (F64 α)).get (q / 64) (r8 (r8 (r8 x)))) = x
  rw [r8_get]
  show (L8 α).get (q % 64 % 8) ((L8 (F8 α)).get (q % 64 / 8) (r8 (r8 x))) = x
  rw [r8_get, r8_get]

section
variable {P : Program} {B : Nat} {w0 : Base} {n : Nat} {dst : Option Tmp} {ty : TypeId} {pos : String} {after : Array Edge} {guard : Option (Nat × Bool)}
theorem accT_ok {d : Tmp} {a : Acc} (h : accT n d = some a) : AccOk n (.tmp d) a := by
  intro L t hL hn
  rw [accT_def] at h
  cases hq : (Nat.blt d n && Nat.ble n 512) with
  | false => rw [hq] at h; cases h
  | true =>
    rw [hq, cond_true] at h
    injection h with h; subst h
    rw [Bool.and_eq_true] at hq
    have hd := blt_lt hq.1
    have h5 : n ≤ 512 := Nat.le_of_ble_eq_true hq.2
    show ((w512 SV d).get L).up = t.getD d undef
    rw [w512_get (by omega), Array.getD_eq_getD_getElem?, hL.get d (by omega)]
    rfl
theorem svOf_up {v : Value} (h : svOk v = true) : (svOf v).up = v := by
  unfold svOf
  unfold svOk at h
  split
  · rename_i c
    rw [Bool.and_eq_true] at h
    have hl : c.length ≤ 64 := by have := Nat.le_of_ble_eq_true h.2; simpa using this
    have h1 : ∀ v ∈ c, oneB v = true := fun v hv => List.all_eq_true.1 (by simpa using h.1) v hv
    show Value.agg ⟨rowL (rowOf c 0 row0) c.length⟩ = .agg ⟨c⟩
    congr 2
    apply List.ext_getElem?
    intro p
    rw [rowL_get]
    by_cases hp : p < c.length
    · rw [if_pos hp, rowOf_up hl h1 hp row0]
    · rw [if_neg hp, List.getElem?_eq_none (by omega)]
  · rename_i hna
    refine fvOf_up ?_
    cases v <;> first
      | rfl
      | (cases h; done)
      | exact absurd rfl (hna _)
theorem accOf_ok {gl : Nat → Bool} {x : Operand} {a : Acc} (h : accOf gl n x = some a) : AccOk n x a := by
  cases x with
  | tmp d => exact accT_ok h
  | const v =>
    intro L t hL hn
    unfold accOf at h
    dsimp only at h
    cases hq : free v && svOk v with
    | false => rw [hq] at h; cases h
    | true =>
      rw [hq, cond_true] at h
      injection h with h; subst h
      rw [Bool.and_eq_true] at hq
      exact svOf_up hq.2
  | global g =>
    intro L t hL hn
    unfold accOf at h
    dsimp only at h
    cases hq : gl g with
    | false => rw [hq] at h; cases h
    | true =>
      rw [hq, cond_true] at h
      injection h with h; subst h
      rfl
  | func f =>
    intro L t hL hn
    unfold accOf at h
    dsimp only at h
    injection h with h; subst h
    rfl
theorem zeroB_spec {e : TypeId} {z : List Value} (h : zeroB P e = some z) : ∃ i v, P.info? e = some i ∧ i.zero = some v ∧ v.cells.toList = z ∧ v.cells.size = i.size ∧ 0 < i.size ∧ z.length = i.size ∧ sizeB P e = i.size ∧ ∀ u ∈ z, oneB u = true := by
  unfold zeroB at h
  unfold sizeB
  cases hi : P.info? e with
  | none => rw [hi] at h; cases h
  | some i =>
    rw [hi] at h
    dsimp only at h
    cases hz : i.zero with
    | none => rw [hz] at h; cases h
    | some v =>
      rw [hz] at h
      dsimp only at h
      cases hq : (Nat.beq v.cells.size i.size && Nat.blt 0 i.size && v.cells.toList.all oneB) with
      | false => rw [hq] at h; cases h
      | true =>
        rw [hq, cond_true] at h
        injection h with h
        rw [Bool.and_eq_true, Bool.and_eq_true] at hq
        have h1 := beq_eq hq.1.1
        refine ⟨i, v, rfl, hz, h, h1, blt_lt hq.1.2, by rw [← h, Array.length_toList]; exact h1, rfl, fun u hu => List.all_eq_true.1 hq.2 u (by rw [h]; exact hu)⟩

/-- blocks that are made -/
theorem mk_ghost {o : Oper} (hk : okOp o = true) (hc : ∀ t, cls t o = .ghost) {t : Operand → Value} {A : AW} {c : Array Value} {e : TypeId} {m : Option (Nat × Nat)} (h : ghostA P t o = some (c, e, m)) : quietA P t A o = some (.ghost c e m) := by
  unfold quietA
  rw [hk, cond_true, hc]
  dsimp only
  rw [h]
theorem mkBox_true {rows : Rows} {m esz : Nat} {e : TypeId} {F : FM} {k : SV → FM → R} {A : AW} {c : Array Value} (hM : MR F A) (h : mkBox rows m esz e F k = true) (h0 : 0 < esz) (h1 : esz ≤ 64) (h2 : m ≤ 512) (hs : c.size = m * esz) (hc : ∀ j, j < m * esz → c[j]? = some (cellAt rows esz j).up) :
    A.room = true ∧ Post k (ghostV A.next none) (A.add ⟨.cells c e (0, 0), false, false⟩) := by
  obtain ⟨h3, h4⟩ := newF_true h
  refine ⟨hM.room h3, _, _, ?_, hM.add h3 (.blk h0 h1 h2 hs hc), h4⟩
  rw [hM.next]
  rfl
theorem rAlloc_ok {e : TypeId} {z : List Value} (hz : zeroB P e = some z) {m s : Nat} (hl : m * s = z.length) (h2 : m ≤ 512) (h1 : s ≤ 64) (h0 : 0 < s) (hk : okOp ⟨dst, .alloc e, ty, pos, after, guard⟩ = true) : QOk P n ⟨dst, .alloc e, ty, pos, after, guard⟩ (rAlloc (rowsOf s m z 0 rows0) m s e) := by
  intro rec L F k t A _ _ hM h
  obtain ⟨i, v, hi, hv, hcz, _, _, _, _, hone⟩ := zeroB_spec hz
  rw [mk_ghost hk (fun _ => rfl) (c := v.cells) (e := e) (m := none) (by show (match P.info? e with | some i => _ | none => none) = _; rw [hi]; dsimp only; rw [hv])]
  refine mkBox_true hM h h0 h1 h2 (by rw [← Array.length_toList, hcz, hl]) fun j hj => ?_
  rw [← rowsOf_cell h0 h1 h2 hl.symm hone hj rows0, ← hcz, Array.getElem?_toList]
theorem rBox_ok {e : TypeId} {x : Operand} {a : Acc} (ha : AccOk n x a) (hk : okOp ⟨dst, .box e x, ty, pos, after, guard⟩ = true) : QOk P n ⟨dst, .box e x, ty, pos, after, guard⟩ (rBox e a) := by
  intro rec L F k t A h1 h2 hM h
  obtain ⟨v, h3, h4⟩ := valK_true h
  have e1 := ha L t h1 h2
  rw [h3] at e1
  have hcs : (ev t x).cells = #[v.up] := by rw [← e1]; exact oneB_cells (up_one v)
  rw [mk_ghost hk (fun _ => rfl) (c := (ev t x).cells) (e := e) (m := none) rfl]
  refine mkBox_true hM h4 (by decide) (by decide) (by decide) (by rw [hcs]; rfl) fun j hj => ?_
  have : j = 0 := by omega
  subst this
  rw [one_cell _ (by decide), cell1_at, hcs]
  rfl
theorem rBoxN_ok {e : TypeId} {x : Operand} {a : Acc} {m : Nat} (h0 : 0 < m) (h1' : m ≤ 64) (ha : AccOk n x a) (hk : okOp ⟨dst, .box e x, ty, pos, after, guard⟩ = true) : QOk P n ⟨dst, .box e x, ty, pos, after, guard⟩ (rBoxN m e a) := by
  intro rec L F k t A h1 h2 hM h
  obtain ⟨m', f, h3, h4⟩ := rowK_true h
  obtain ⟨h5, h6⟩ := ifK_true h4
  obtain rfl := beq_eq h5
  have e1 := ha L t h1 h2
  rw [h3] at e1
  have hcs : (ev t x).cells = ⟨rowL f m'⟩ := by rw [← e1]; rfl
  rw [mk_ghost hk (fun _ => rfl) (c := (ev t x).cells) (e := e) (m := none) rfl]
  refine mkBox_true hM h6 h0 h1' (by decide) (by rw [hcs, Nat.one_mul]; exact rowL_len f m') fun j hj => ?_
  rw [Nat.one_mul] at hj
  rw [one_cell _ hj, hcs]
  show (rowL f m').toArray[j]? = _
  rw [List.getElem?_toArray, rowL_get, if_pos hj]

/-- addresses -/
theorem rFieldAddr_ok {s : TypeId} {x : Operand} {i : Nat} {a : Acc} {fs : Array Field} {fd : Field} (hu : P.underlying s = some (.struct fs)) (hf : fs[i]? = some fd) (hz : sizeB P fd.type ≠ 0) (ha : AccOk n x a) (hk : okOp ⟨dst, .fieldAddr s x i, ty, pos, after, guard⟩ = true) : QOk P n ⟨dst, .fieldAddr s x i, ty, pos, after, guard⟩ (rFieldAddr fd.offset a) :=
  QOk.pure hk (fun _ => rfl) fun rec L F k t h1 h2 h => by
    obtain ⟨b, o, h3, h4⟩ := ptrK_true h
    have e1 := ha L t h1 h2
    rw [h3] at e1
    refine ⟨_, ?_, (h4 : k (.val (.ptr b (o + fd.offset))) F = true)⟩
    show pureRun P (fieldAtA s (ev t x) i) = _
    rw [← e1]
    unfold fieldAtA
    refine pureRun_bind.2 ⟨_, run_und hu, ?_⟩
    dsimp only
    rw [hf]
    dsimp only
    refine pureRun_bind.2 ⟨⟨b, o, none⟩, rfl, pureRun_bind.2 ⟨⟨b, o + fd.offset, none⟩, ?_, rfl⟩⟩
    unfold fieldPlaceA
    unfold sizeB at hz
    cases hi : P.info? fd.type with
    | none => rw [hi] at hz; exact absurd rfl hz
    | some i2 =>
      rw [hi] at hz
      refine pureRun_bind.2 ⟨i2.size, ?_, ?_⟩
      · unfold sizeOf typeInfo program
        simp only [Bind.bind, Pure.pure, Sem.bind, pureRun, runA, hi]
      · rw [if_neg hz, add_none]
        rfl
theorem rIndexAddr_ok {s : TypeId} {x y : Operand} {a b' : Acc} {e : TypeId} {i : TypeInfo} (hu : P.underlying s = some (.slice e)) (hi : P.info? e = some i) (ha : AccOk n x a) (hb : AccOk n y b') (hk : okOp ⟨dst, .indexAddr s x y, ty, pos, after, guard⟩ = true) : QOk P n ⟨dst, .indexAddr s x y, ty, pos, after, guard⟩ (rIndexAddr i.size a b') :=
  QOk.pure hk (fun _ => rfl) fun rec L F k t h1 h2 h => by
    rcases slcK_true h with ⟨_, _, _, h4⟩ | ⟨b, o, m, c, h3, h4⟩
    · exact not_bad h4
    obtain ⟨j, w, h5, h6⟩ := intK_true h4
    obtain ⟨q, rfl, h7⟩ := natV_true h6
    obtain ⟨h8, h9⟩ := ifK_true h7
    have hq := blt_lt h8
    have e1 : ev t x = .slice (some ⟨b, o, none⟩) m c := (ha L t h1 h2).symm.trans (by rw [h3]; rfl)
    have e2 : ev t y = .int j (Int.ofNat q) := (hb L t h1 h2).symm.trans (by rw [h5]; rfl)
    refine ⟨_, ?_, (h9 : k (.val (.ptr b (o + q * i.size))) F = true)⟩
    show pureRun P (indexAtA s (ev t x) (ev t y)) = _
    rw [e1, e2]
    unfold indexAtA
    refine pureRun_bind.2 ⟨(j, Int.ofNat q), rfl, pureRun_bind.2 ⟨_, run_und hu, pureRun_bind.2 ⟨(some ⟨b, o, none⟩, m, e), rfl, ?_⟩⟩⟩
    dsimp only
    rw [if_pos (show (0 : Int) ≤ Int.ofNat q ∧ Int.ofNat q < m from ⟨Int.natCast_nonneg q, by simp only [Int.ofNat_eq_natCast]; omega⟩)]
    refine pureRun_bind.2 ⟨i.size, ?_, ?_⟩
    · unfold sizeOf typeInfo program
      simp only [Bind.bind, Pure.pure, Sem.bind, pureRun, runA, hi]
    · rw [show (Int.ofNat q).toNat = q from rfl, add_none]
      rfl
theorem rIndexArr_ok {s : TypeId} {x y : Operand} {a b' : Acc} {len : Nat} {e : TypeId} {i : TypeInfo} (hu : P.underlying s = some (.array len e)) (hi : P.info? e = some i) (ha : AccOk n x a) (hb : AccOk n y b') (hk : okOp ⟨dst, .indexAddr s x y, ty, pos, after, guard⟩ = true) : QOk P n ⟨dst, .indexAddr s x y, ty, pos, after, guard⟩ (rIndexArr len i.size a b') :=
  QOk.pure hk (fun _ => rfl) fun rec L F k t h1 h2 h => by
    obtain ⟨b, o, h3, h4⟩ := ptrK_true h
    obtain ⟨j, w, h5, h6⟩ := intK_true h4
    obtain ⟨q, rfl, h7⟩ := natV_true h6
    obtain ⟨h8, h9⟩ := ifK_true h7
    have hq := blt_lt h8
    have e1 : ev t x = .pointer (some ⟨b, o, none⟩) := (ha L t h1 h2).symm.trans (by rw [h3]; rfl)
    have e2 : ev t y = .int j (Int.ofNat q) := (hb L t h1 h2).symm.trans (by rw [h5]; rfl)
    refine ⟨_, ?_, (h9 : k (.val (.ptr b (o + q * i.size))) F = true)⟩
    show pureRun P (indexAtA s (ev t x) (ev t y)) = _
    rw [e1, e2]
    unfold indexAtA
    refine pureRun_bind.2 ⟨(j, Int.ofNat q), rfl, pureRun_bind.2 ⟨_, run_und hu, pureRun_bind.2 ⟨⟨b, o, none⟩, rfl, pureRun_bind.2 ⟨(some ⟨b, o, none⟩, len, e), rfl, ?_⟩⟩⟩⟩
    dsimp only
    rw [if_pos (show (0 : Int) ≤ Int.ofNat q ∧ Int.ofNat q < len from ⟨Int.natCast_nonneg q, by simp only [Int.ofNat_eq_natCast]; omega⟩)]
    refine pureRun_bind.2 ⟨i.size, ?_, ?_⟩
    · unfold sizeOf typeInfo program
      simp only [Bind.bind, Pure.pure, Sem.bind, pureRun, runA, hi]
    · rw [show (Int.ofNat q).toNat = q from rfl, add_none]
      rfl
/-- fields of values -/
theorem run_isAgg {s : TypeId} {q : Bool} (h : aggB P s = some q) : pureRun P (isAgg s) = some q := by
  unfold aggB at h
  cases hu : P.underlying s with
  | none => rw [hu] at h; cases h
  | some d =>
    rw [hu] at h
    refine pureRun_bind.2 ⟨d, run_und hu, ?_⟩
    cases d <;> (injection h with h; subst h; rfl)
theorem rField_ok {s : TypeId} {x : Operand} {i : Nat} {a : Acc} {fs : Array Field} {fd : Field} (hu : P.underlying s = some (.struct fs)) (hf : fs[i]? = some fd) (hg : aggB P fd.type = some false) (ha : AccOk n x a) (hk : okOp ⟨dst, .field s x i, ty, pos, after, guard⟩ = true) : QOk P n ⟨dst, .field s x i, ty, pos, after, guard⟩ (rField fd.offset a) :=
  QOk.pure hk (fun _ => rfl) fun rec L F k t h1 h2 h => by
    obtain ⟨m, f, h3, h4⟩ := rowK_true h
    obtain ⟨h5, h6⟩ := ifK_true h4
    obtain ⟨h5', h6⟩ := ifK_true h6
    have hlt := blt_lt h5
    have h64 := blt_lt h5'
    rw [fvF_eq, w64_get h64] at h6
    have e1 : ev t x = .agg ⟨rowL f m⟩ := (ha L t h1 h2).symm.trans (by rw [h3]; rfl)
    refine ⟨_, ?_, h6⟩
    show pureRun P (Instr.field s (ev t x) i) = _
    rw [e1]
    unfold Instr.field
    refine pureRun_bind.2 ⟨_, run_und hu, ?_⟩
    dsimp only
    rw [hf]
    dsimp only
    refine pureRun_bind.2 ⟨⟨rowL f m⟩, rfl, ?_⟩
    unfold part
    refine pureRun_bind.2 ⟨false, run_isAgg hg, ?_⟩
    have : (⟨rowL f m⟩ : Array Value)[fd.offset]? = some (Lr.get fd.offset f).up := by
      show (rowL f m).toArray[fd.offset]? = _
      rw [List.getElem?_toArray, rowL_get, if_pos hlt]
    simp only [this]
    rfl
theorem rFieldN_ok {s : TypeId} {x : Operand} {i : Nat} {a : Acc} {fs : Array Field} {fd : Field} {it : TypeInfo} (hu : P.underlying s = some (.struct fs)) (hf : fs[i]? = some fd) (hg : aggB P fd.type = some true) (hi : P.info? fd.type = some it) (ha : AccOk n x a) (hk : okOp ⟨dst, .field s x i, ty, pos, after, guard⟩ = true) : QOk P n ⟨dst, .field s x i, ty, pos, after, guard⟩ (rFieldN fd.offset it.size a) :=
  QOk.pure hk (fun _ => rfl) fun rec L F k t h1 h2 h => by
    obtain ⟨m, f, h3, h4⟩ := rowK_true h
    obtain ⟨h5, h6⟩ := ifK_true h4
    obtain ⟨h5', h6⟩ := ifK_true h6
    have hle : fd.offset + it.size ≤ m := Nat.le_of_ble_eq_true h5
    have h64 : fd.offset + it.size ≤ 64 := Nat.le_of_ble_eq_true h5'
    obtain ⟨r, g1, g2⟩ := copyC_true _ _ _ _ _ _ h64 (by omega) h6
    have e1 : ev t x = .agg ⟨rowL f m⟩ := (ha L t h1 h2).symm.trans (by rw [h3]; rfl)
    refine ⟨_, ?_, g1⟩
    show pureRun P (Instr.field s (ev t x) i) = _
    rw [e1]
    unfold Instr.field
    refine pureRun_bind.2 ⟨_, run_und hu, ?_⟩
    dsimp only
    rw [hf]
    dsimp only
    refine pureRun_bind.2 ⟨⟨rowL f m⟩, rfl, ?_⟩
    unfold part
    refine pureRun_bind.2 ⟨true, run_isAgg hg, ?_⟩
    rw [if_pos rfl]
    refine pureRun_bind.2 ⟨it.size, ?_, ?_⟩
    · unfold sizeOf typeInfo program
      simp only [Bind.bind, Pure.pure, Sem.bind, pureRun, runA, hi]
    show some (Value.agg ((⟨rowL f m⟩ : Array Value).extract fd.offset (fd.offset + it.size))) = some (Value.agg ⟨rowL r it.size⟩)
    congr 2
    apply Array.toList_inj.1
    show ((rowL f m).toArray.extract fd.offset (fd.offset + it.size)).toList = rowL r it.size
    rw [List.extract_toArray]
    simp only [List.extract_eq_take_drop]
    apply List.ext_getElem?
    intro p
    rw [rowL_get]
    by_cases hp : p < it.size
    · rw [List.getElem?_take_of_lt (by omega), List.getElem?_drop, rowL_get, if_pos (by omega), if_pos hp, g2 p (by omega), if_pos (by omega), Nat.sub_zero]
    · rw [List.getElem?_eq_none (by rw [List.length_take]; omega), if_neg hp]
end
end
end Go.Proofs.YtfeppmhcpfccfaaGreatDoor.Fast
