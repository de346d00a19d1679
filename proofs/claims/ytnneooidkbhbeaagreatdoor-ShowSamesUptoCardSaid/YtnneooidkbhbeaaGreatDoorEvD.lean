/- A fast evaluator, part D: what its steps say of the slots and of the memory. Of no program. -/
import Derived.Test.YtnneooidkbhbeaaGreatDoorEvB
set_option linter.unusedVariables false
set_option linter.unusedSimpArgs false
namespace Go.Proofs.YtnneooidkbhbeaaGreatDoor.Fast
open Go Go.RowKit Go.Proofs.YtnneooidkbhbeaaGreatDoor.Sim
noncomputable section

theorem ifK_true {b : Bool} {x : R} (h : ifK b x bad = true) : b = true ∧ x = true := ifK_iff h
theorem num_true {z : Nat} {k : Nat → R} (h : num z k = true) : k z = true := h
theorem fvF_eq (x : FV) (k : FV → R) : fvF x k = k x := by cases x <;> rfl
theorem roF_eq (x : Ro) (k : Ro → R) : roF x k = k x := rfl
theorem svF_eq (x : SV) (k : SV → R) : svF x k = k x := by cases x <;> rfl
theorem boolF_eq (b : Bool) (k : SV → R) : boolF b k = k (.val (.bool b)) := by cases b <;> rfl
theorem intF_eq (z : Int) (k : Int → R) : intF z k = k z := by cases z <;> rfl
theorem not_bad {p : Prop} (h : bad = true) : p := by cases h
theorem valK_true {x : SV} {k : FV → R} (h : valK x k = true) : ∃ v, x = .val v ∧ k v = true := by
  cases x <;> first | exact ⟨_, rfl, h⟩ | exact not_bad h
theorem rowK_true {x : SV} {k : Nat → Ro → R} (h : rowK x k = true) : ∃ n f, x = .row n f ∧ k n f = true := by
  cases x <;> first | exact ⟨_, _, rfl, h⟩ | exact not_bad h
theorem boolK_true {x : SV} {k : Bool → R} (h : boolK x k = true) : ∃ b, x = .val (.bool b) ∧ k b = true := by
  obtain ⟨v, rfl, h⟩ := valK_true h
  cases v <;> first | exact ⟨_, rfl, h⟩ | exact not_bad h
theorem intK_true {x : SV} {k : IntKind → Int → R} (h : intK x k = true) : ∃ i z, x = .val (.int i z) ∧ k i z = true := by
  obtain ⟨v, rfl, h⟩ := valK_true h
  cases v <;> first | exact ⟨_, _, rfl, h⟩ | exact not_bad h
theorem strK_true {x : SV} {k : Nat → Nat → R} (h : strK x k = true) : ∃ n z, x = .val (.str n z) ∧ k n z = true := by
  obtain ⟨v, rfl, h⟩ := valK_true h
  cases v <;> first | exact ⟨_, _, rfl, h⟩ | exact not_bad h
theorem ptrK_true {x : SV} {k : Nat → Nat → R} (h : ptrK x k = true) : ∃ b o, x = .val (.ptr b o) ∧ k b o = true := by
  obtain ⟨v, rfl, h⟩ := valK_true h
  cases v <;> first | exact ⟨_, _, rfl, h⟩ | exact not_bad h
theorem funK_true {x : SV} {k : FuncId → List Value → List Value → R} (h : funK x k = true) : ∃ g f c, x = .val (.fn g f c) ∧ k g f c = true := by
  obtain ⟨v, rfl, h⟩ := valK_true h
  cases v <;> first | exact ⟨_, _, _, rfl, h⟩ | exact not_bad h
theorem slcK_true {x : SV} {k0 : Nat → Nat → R} {k : Nat → Nat → Nat → Nat → R} (h : slcK x k0 k = true) : (∃ n c, x = .val (.nilS n c) ∧ k0 n c = true) ∨ ∃ b o n c, x = .val (.slc b o n c) ∧ k b o n c = true := by
  obtain ⟨v, rfl, h⟩ := valK_true h
  cases v <;> first | exact .inl ⟨_, _, rfl, h⟩ | exact .inr ⟨_, _, _, _, rfl, h⟩ | exact not_bad h
theorem natV_true {z : Int} {k : Nat → R} (h : natV z k = true) : ∃ i, z = Int.ofNat i ∧ k i = true := by
  cases z <;> first | exact ⟨_, rfl, h⟩ | exact not_bad h
theorem oneV_one (v : Value) : oneB (oneV v) = true := by cases v <;> rfl
theorem oneV_eq {v : Value} (h : oneB v = true) : oneV v = v := by cases v <;> first | rfl | cases h
theorem up_one (x : FV) : oneB x.up = true := by
  cases x with
  | val v => exact oneV_one v
  | _ => rfl
theorem inB_true {o n esz : Nat} {k : R} (h : inB o n esz k = true) : o < n * esz ∧ k = true := by
  obtain ⟨h1, h2⟩ := ifK_true h
  exact ⟨Nat.le_of_ble_eq_true h1, h2⟩
theorem blt_lt {a b : Nat} (h : Nat.blt a b = true) : a < b := Nat.le_of_ble_eq_true h
theorem beq_eq {a b : Nat} (h : Nat.beq a b = true) : a = b := Nat.eq_of_beq_eq_true h

theorem w32768_get {α : Type} {b : Nat} (h : b < 32768) (f : F32768 α) : (w32768 α b).get f = (L32768 α).get b f := (w32768_ok h).g f
theorem w32768_put {α : Type} {b : Nat} (h : b < 32768) (x : α) (f : F32768 α) (k : F32768 α → R) : (w32768 α b).put x f k = k ((L32768 α).set b x f) := (w32768_ok h).s x f k
theorem w512_get {α : Type} {b : Nat} (h : b < 512) (f : F512 α) : (w512 α b).get f = (L512 α).get b f := (w512_ok h).g f
theorem w512_put {α : Type} {b : Nat} (h : b < 512) (x : α) (f : F512 α) (k : F512 α → R) : (w512 α b).put x f k = k ((L512 α).set b x f) := (w512_ok h).s x f k
theorem w64_get {α : Type} {b : Nat} (h : b < 64) (f : F64 α) : (w64 α b).get f = (L64 α).get b f := (w64_ok h).g f
theorem w64_put {α : Type} {b : Nat} (h : b < 64) (x : α) (f : F64 α) (k : F64 α → R) : (w64 α b).put x f k = k ((L64 α).set b x f) := (w64_ok h).s x f k
theorem Lr_set {i j : Nat} (x : FV) (f : Ro) (hi : i < 64) (hj : j < 64) : Lr.get j (Lr.set i x f) = if j = i then x else Lr.get j f := Lr.law i j x f hi hj
theorem Lw_set {i j : Nat} (x : Ro) (f : Rows) (hi : i < 512) (hj : j < 512) : Lw.get j (Lw.set i x f) = if j = i then x else Lw.get j f := Lw.law i j x f hi hj
theorem Ls_set {i j : Nat} (x : SV) (f : Sl) (hi : i < 512) (hj : j < 512) : Ls.get j (Ls.set i x f) = if j = i then x else Ls.get j f := Ls.law i j x f hi hj
theorem Lh_set {i j : Nat} (x : FO) (f : Hp) (hi : i < 32768) (hj : j < 32768) : Lh.get j (Lh.set i x f) = if j = i then x else Lh.get j f := Lh.law i j x f hi hj

/-- slots -/
theorem SlR.put {S : Sl} {t : Array Value} (h : SlR S t) {d : Nat} (hd : d < t.size) {sv : SV} {v : Value} (hv : sv.up = v) : SlR (Ls.set d sv S) (t.setIfInBounds d v) := by
  refine ⟨by rw [Array.size_setIfInBounds]; exact h.size, fun j hj => ?_⟩
  rw [Array.size_setIfInBounds] at hj
  have := h.size
  rw [Ls_set _ _ (by omega) (by omega), Array.getElem?_setIfInBounds]
  by_cases hij : j = d
  · subst hij
    rw [if_pos rfl, if_pos rfl, if_pos hj, hv]
  · rw [if_neg hij, if_neg (fun e => hij e.symm)]
    exact h.get j hj

/-- memory -/
theorem blkK_true {b : Nat} {F : FM} {k : Rows → Nat → Nat → TypeId → Bool → Bool → R} (h : blkK b F k = true) : b < 32768 ∧ ∃ rows n esz e fam ro, Lh.get b F.heap = .blk rows n esz e fam ro ∧ k rows n esz e fam ro = true := by
  obtain ⟨h1, h2⟩ := ifK_true h
  have hb := blt_lt h1
  refine ⟨hb, ?_⟩
  rw [w32768_get hb] at h2
  generalize (L32768 FO).get b F.heap = x at h2
  cases x with
  | no => exact not_bad h2
  | map => exact not_bad h2
  | iter => exact not_bad h2
  | siter => exact not_bad h2
  | loop => exact not_bad h2
  | blk rows n esz e fam ro => exact ⟨rows, n, esz, e, fam, ro, rfl, h2⟩
theorem lpK_true {b : Nat} {F : FM} {k : Sl → Nat → List Nat → Code → Code → Nat → AE → R} (h : lpK b F k = true) : b < 32768 ∧ ∃ L n ps a c st pend, Lh.get b F.heap = .loop L n ps a c st pend ∧ k L n ps a c st pend = true := by
  obtain ⟨h1, h2⟩ := ifK_true h
  have hb := blt_lt h1
  refine ⟨hb, ?_⟩
  rw [w32768_get hb] at h2
  generalize (L32768 FO).get b F.heap = x at h2
  cases x with
  | no => exact not_bad h2
  | map => exact not_bad h2
  | iter => exact not_bad h2
  | siter => exact not_bad h2
  | blk => exact not_bad h2
  | loop L n ps a c st pend => exact ⟨L, n, ps, a, c, st, pend, rfl, h2⟩
theorem MR.loop {F : FM} {A : AW} (h : MR F A) {b : Nat} (hb : b < 32768) {L : Sl} {n : Nat} {ps : List Nat} {a c : Code} {st : Nat} {pend : AE} (hg : Lh.get b F.heap = .loop L n ps a c st pend) :
    ∃ tmps, A.heap.get b = some ⟨.loop (recOf tmps ps a c st pend), false, false⟩ ∧ SlR L tmps ∧ n ≤ tmps.size := by
  have := h.blk b hb
  rw [hg] at this
  generalize hy : A.heap.get b = y at this
  cases this with
  | loop hL hn => exact ⟨_, rfl, hL, hn⟩
structure Blk (A : AW) (b : Nat) (rows : Rows) (n esz : Nat) (e : TypeId) (fam ro : Bool) (c : Array Value) : Prop where
  get : A.heap.get b = some ⟨.cells c e (0, 0), fam, ro⟩
  h0 : 0 < esz
  h1 : esz ≤ 64
  h2 : n ≤ 512
  size : c.size = n * esz
  cell : ∀ j, j < n * esz → c[j]? = some (cellAt rows esz j).up
theorem MR.at {F : FM} {A : AW} (h : MR F A) {b : Nat} (hb : b < 32768) {rows : Rows} {n esz : Nat} {e : TypeId} {fam ro : Bool} (hg : Lh.get b F.heap = .blk rows n esz e fam ro) : ∃ c, Blk A b rows n esz e fam ro c := by
  have := h.blk b hb
  rw [hg] at this
  generalize hy : A.heap.get b = y at this
  cases this with
  | blk h0 h1 h2 hs hc => exact ⟨_, hy, h0, h1, h2, hs, hc⟩
theorem bits_lt {b : Nat} (h : b < 32768) : b + 1 < 2 ^ Sim.bits := by
  have : 2 ^ Sim.bits = 1073741824 := by decide
  omega
/-- a block is another one -/
theorem MR.put {F : FM} {A : AW} (h : MR F A) {b : Nat} (hb : b < 32768) {x : FO} {A' : AW} (hn : A'.next = A.next) (hx : BlkR x (A'.heap.get b)) (ho : ∀ c, c ≠ b → A'.heap.get c = A.heap.get c) : MR ⟨Lh.set b x F.heap, F.next⟩ A' := by
  refine ⟨hn.trans h.next, fun c hc => ?_⟩
  rw [Lh_set _ _ hb hc]
  by_cases hcb : c = b
  · rw [if_pos hcb, hcb]; exact hx
  · rw [if_neg hcb, ho c hcb]; exact h.blk c hc
theorem AW.put_at {A : AW} {b : Nat} (hb : b < 32768) (x : Option ABk) (c : Nat) : (A.put b x).heap.get c = if c = b then x else A.heap.get c := Tr.get_set Sim.bits A.heap b c x (bits_lt hb)
theorem MR.putA {F : FM} {A : AW} (h : MR F A) {b : Nat} (hb : b < 32768) {x : FO} {y : Option ABk} (hx : BlkR x y) : MR ⟨Lh.set b x F.heap, F.next⟩ (A.put b y) :=
  h.put hb rfl (by rw [AW.put_at hb, if_pos rfl]; exact hx) (fun c hc => by rw [AW.put_at hb, if_neg hc])
theorem putF_true {b : Nat} (hb : b < 32768) {x : FO} {F : FM} {k : FM → R} (h : putF b x F k = true) : k ⟨Lh.set b x F.heap, F.next⟩ = true := by
  unfold putF at h
  rw [w32768_put hb] at h
  exact h
theorem newF_true {x : FO} {F : FM} {k : Nat → FM → R} (h : newF x F k = true) : F.next < 32767 ∧ k F.next ⟨Lh.set F.next x F.heap, F.next + 1⟩ = true := by
  obtain ⟨h1, h2⟩ := ifK_true h
  have hb := blt_lt h1
  rw [w32768_put (by omega)] at h2
  exact ⟨hb, h2⟩
theorem MR.room {F : FM} {A : AW} (h : MR F A) (hb : F.next < 32767) : A.room = true := by
  unfold AW.room
  rw [h.next]
  exact Nat.ble_eq_true_of_le (by have : 2 ^ Sim.bits = 1073741824 := (by decide); omega)
theorem MR.add {F : FM} {A : AW} (h : MR F A) (hb : F.next < 32767) {x : FO} {y : ABk} (hx : BlkR x (some y)) : MR ⟨Lh.set F.next x F.heap, F.next + 1⟩ (A.add y) := by
  refine ⟨by show A.next + 1 = _; rw [h.next], fun c hc => ?_⟩
  rw [Lh_set _ _ (by omega) hc]
  have hg : (A.add y).heap.get c = if c = A.next then some y else A.heap.get c := Tr.get_set Sim.bits A.heap A.next c (some y) (bits_lt (by rw [h.next]; omega))
  rw [hg, h.next]
  by_cases hcb : c = F.next
  · rw [if_pos hcb, if_pos hcb]; exact hx
  · rw [if_neg hcb, if_neg hcb]; exact h.blk c hc

/-- a cell of rows -/
theorem div_lt_of {o n esz : Nat} (h : o < n * esz) : o / esz < n := Nat.div_lt_of_lt_mul (by rw [Nat.mul_comm]; exact h)
theorem comp_get {F G α : Type} (a : Wl G α) (b : Wl F G) (f : F) : (a.comp b).get f = a.get (b.get f) := by cases a; cases b; rfl
theorem comp_put {F G α : Type} (a : Wl G α) (b : Wl F G) (x : α) (f : F) (k : F → R) : (a.comp b).put x f k = a.put x (b.get f) fun y => b.put y f k := by cases a; cases b; rfl
theorem wCell_get {o n esz : Nat} (h : o < n * esz) (h0 : 0 < esz) (h1 : esz ≤ 64) (h2 : n ≤ 512) (rows : Rows) : (wCell o esz).get rows = cellAt rows esz o := by
  have hd := div_lt_of h
  have hm := Nat.mod_lt o h0
  unfold wCell cellAt
  rw [comp_get]
  show (w64 FV (o % esz)).get ((w512 Ro (o / esz)).get rows) = _
  rw [w512_get (by omega), w64_get (by omega)]
theorem wCell_put {o n esz : Nat} (h : o < n * esz) (h0 : 0 < esz) (h1 : esz ≤ 64) (h2 : n ≤ 512) (u : FV) (rows : Rows) (k : Rows → R) : (wCell o esz).put u rows k = k (Lw.set (o / esz) (Lr.set (o % esz) u (Lw.get (o / esz) rows)) rows) := by
  have hd := div_lt_of h
  have hm := Nat.mod_lt o h0
  unfold wCell
  rw [comp_put]
  show (w64 FV (o % esz)).put u ((w512 Ro (o / esz)).get rows) (fun y => (w512 Ro (o / esz)).put y rows k) = _
  rw [w512_get (by omega), w64_put (by omega), w512_put (by omega)]
theorem cell_set {o n esz : Nat} (h : o < n * esz) (h0 : 0 < esz) (h1 : esz ≤ 64) (h2 : n ≤ 512) (u : FV) (rows : Rows) {j : Nat} (hj : j < n * esz) : cellAt (Lw.set (o / esz) (Lr.set (o % esz) u (Lw.get (o / esz) rows)) rows) esz j = if j = o then u else cellAt rows esz j := by
  have hd := div_lt_of h
  have hm := Nat.mod_lt o h0
  have hdj := div_lt_of hj
  have hmj := Nat.mod_lt j h0
  unfold cellAt
  rw [Lw_set _ _ (by omega) (by omega)]
  by_cases hq : j / esz = o / esz
  · rw [if_pos hq, Lr_set _ _ (by omega) (by omega)]
    by_cases hr : j % esz = o % esz
    · have : j = o := by rw [← Nat.div_add_mod j esz, ← Nat.div_add_mod o esz, hq, hr]
      rw [if_pos hr, if_pos this]
    · rw [if_neg hr, if_neg (fun e => hr (by rw [e])), hq]
  · rw [if_neg hq, if_neg (fun e => hq (by rw [e]))]
/-- a row of rows -/
theorem row_set {i n esz : Nat} (hi : i < n) (h0 : 0 < esz) (h2 : n ≤ 512) (g : Ro) (rows : Rows) {j : Nat} (hj : j < n * esz) : cellAt (Lw.set i g rows) esz j = if j / esz = i then Lr.get (j % esz) g else cellAt rows esz j := by
  have hdj := div_lt_of hj
  unfold cellAt
  rw [Lw_set _ _ (by omega) (by omega)]
  by_cases hq : j / esz = i
  · rw [if_pos hq, if_pos hq]
  · rw [if_neg hq, if_neg hq]
theorem div_of {i j esz : Nat} (h : j < esz) : (i * esz + j) / esz = i := by
  rw [Nat.mul_comm, Nat.mul_add_div (by omega), Nat.div_eq_of_lt h, Nat.add_zero]
theorem mod_of {i j esz : Nat} (h : j < esz) : (i * esz + j) % esz = j := by
  rw [Nat.mul_comm, Nat.mul_add_mod, Nat.mod_eq_of_lt h]

/-- so many cells, copied -/
theorem copyC_true : ∀ (m i j : Nat) (s t : Ro) (k : Ro → R), i + m ≤ 64 → j + m ≤ 64 → copyC m i j s t k = true → ∃ r, k r = true ∧ ∀ p, p < 64 → Lr.get p r = if j ≤ p ∧ p < j + m then Lr.get (i + (p - j)) s else Lr.get p t
  | 0, i, j, s, t, k, _, _, h => ⟨t, h, fun p _ => by rw [if_neg (by omega)]⟩
  | m + 1, i, j, s, t, k, hi, hj, h => by
    have h' : fvF ((w64 FV i).get s) (fun v => (w64 FV j).put v t fun t => num (Nat.succ i) fun i => num (Nat.succ j) fun j => copyC m i j s t k) = true := h
    rw [fvF_eq, w64_get (by omega), w64_put (by omega)] at h'
    obtain ⟨r, h1, h2⟩ := copyC_true m (i + 1) (j + 1) s _ k (by omega) (by omega) h'
    refine ⟨r, h1, fun p hp => ?_⟩
    rw [h2 p hp]
    by_cases hq : j + 1 ≤ p ∧ p < j + 1 + m
    · rw [if_pos hq, if_pos (by omega), show i + 1 + (p - (j + 1)) = i + (p - j) by omega]
    · rw [if_neg hq, Lr_set _ _ (by omega) hp]
      by_cases he : p = j
      · rw [if_pos he, if_pos (by omega), he, Nat.sub_self, Nat.add_zero]
      · rw [if_neg he, if_neg (by omega)]
/-- so many rows, copied -/
theorem copyR_true : ∀ (m i j : Nat) (s t : Rows) (k : Rows → R), i + m ≤ 512 → j + m ≤ 512 → copyR m i j s t k = true → ∃ r, k r = true ∧ ∀ p, p < 512 → Lw.get p r = if j ≤ p ∧ p < j + m then Lw.get (i + (p - j)) s else Lw.get p t
  | 0, i, j, s, t, k, _, _, h => ⟨t, h, fun p _ => by rw [if_neg (by omega)]⟩
  | m + 1, i, j, s, t, k, hi, hj, h => by
    have h' : roF ((w512 Ro i).get s) (fun v => (w512 Ro j).put v t fun t => num (Nat.succ i) fun i => num (Nat.succ j) fun j => copyR m i j s t k) = true := h
    rw [roF_eq, w512_get (by omega), w512_put (by omega)] at h'
    obtain ⟨r, h1, h2⟩ := copyR_true m (i + 1) (j + 1) s _ k (by omega) (by omega) h'
    refine ⟨r, h1, fun p hp => ?_⟩
    rw [h2 p hp]
    by_cases hq : j + 1 ≤ p ∧ p < j + 1 + m
    · rw [if_pos hq, if_pos (by omega), show i + 1 + (p - (j + 1)) = i + (p - j) by omega]
    · rw [if_neg hq, Lw_set _ _ (by omega) hp]
      by_cases he : p = j
      · rw [if_pos he, if_pos (by omega), he, Nat.sub_self, Nat.add_zero]
      · rw [if_neg he, if_neg (by omega)]
theorem rowL_get (f : Ro) (n i : Nat) : (rowL f n)[i]? = if i < n then some (Lr.get i f).up else none := by
  unfold rowL
  rw [List.getElem?_map]
  by_cases h : i < n
  · rw [List.getElem?_range h, if_pos h]; rfl
  · rw [List.getElem?_eq_none (by simp; omega), if_neg h]; rfl
theorem rowL_len (f : Ro) (n : Nat) : (rowL f n).length = n := by unfold rowL; simp
/-- cells of a block as a row -/
theorem subK_true {o m n esz : Nat} {rows : Rows} {k : Ro → R} (h0 : 0 < esz) (h1 : esz ≤ 64) (h2 : n ≤ 512) (h : subK o m n esz rows k = true) : ∃ r, k r = true ∧ o + m ≤ n * esz ∧ ∀ p, p < m → p < 64 ∧ Lr.get p r = cellAt rows esz (o + p) := by
  obtain ⟨hB, h⟩ := inB_true h
  have hd := div_lt_of hB
  have hm := Nat.mod_lt o h0
  have hdm := Nat.div_add_mod o esz
  have hle : o / esz * esz + esz ≤ n * esz := by
    rw [← Nat.succ_mul]; exact Nat.mul_le_mul_right _ hd
  have hdm' : o / esz * esz + o % esz = o := by rw [Nat.mul_comm]; exact hdm
  cases ha : (Nat.beq m esz && aligned o esz) with
  | true =>
    rw [ha] at h
    rw [Bool.and_eq_true] at ha
    have e1 := beq_eq ha.1
    have e2 : o % esz = 0 := beq_eq ha.2
    have h' : roF ((w512 Ro (o / esz)).get rows) k = true := h
    rw [roF_eq, w512_get (by omega)] at h'
    refine ⟨_, h', by omega, fun p hp => ⟨by omega, ?_⟩⟩
    unfold cellAt
    have e3 : o + p = o / esz * esz + p := by omega
    rw [e3, div_of (by omega), mod_of (by omega)]
  | false =>
    rw [ha] at h
    obtain ⟨h3, h4⟩ := ifK_true (h : ifK (Nat.ble (Nat.add (Nat.mod o esz) m) esz) _ bad = true)
    have h3' : o % esz + m ≤ esz := Nat.le_of_ble_eq_true h3
    have h4' : copyC m (o % esz) 0 ((w512 Ro (o / esz)).get rows) row0 k = true := h4
    rw [w512_get (by omega)] at h4'
    obtain ⟨r, g1, g2⟩ := copyC_true m _ _ _ _ _ (by omega) (by omega) h4'
    refine ⟨r, g1, by omega, fun p hp => ⟨by omega, ?_⟩⟩
    rw [g2 p (by omega), if_pos (by omega), Nat.sub_zero]
    unfold cellAt
    have e3 : o + p = o / esz * esz + (o % esz + p) := by omega
    rw [e3, div_of (by omega), mod_of (by omega)]
theorem takeA_of : ∀ (k : Nat) (l : List Value), k ≤ l.length → takeA k l = some (l.take k)
  | 0, l, _ => by cases l <;> rfl
  | k + 1, [], h => by simp at h
  | k + 1, a :: l, h => by
    unfold takeA
    rw [takeA_of k l (by simp at h; omega)]
    rfl
theorem dropA_of : ∀ (k : Nat) (l : List Value), dropA k l = l.drop k
  | 0, l => by cases l <;> rfl
  | k + 1, [] => by unfold dropA; rfl
  | k + 1, a :: l => by
    unfold dropA
    rw [dropA_of k l]
    rfl
theorem Blk.cells {A : AW} {b : Nat} {rows : Rows} {n esz : Nat} {e : TypeId} {fam ro : Bool} {c : Array Value} (h : Blk A b rows n esz e fam ro c) {o m : Nat} (hm : o + m ≤ n * esz) {l : List Value} (hl : l.length = m) (hc : ∀ p, p < m → l[p]? = some (cellAt rows esz (o + p)).up) : cellsA A b o m = some l := by
  unfold cellsA
  rw [h.get]
  dsimp only
  have hlen : c.toList.length = n * esz := by rw [Array.length_toList]; exact h.size
  rw [dropA_of, takeA_of m _ (by rw [List.length_drop]; omega)]
  congr 1
  apply List.ext_getElem?
  intro p
  by_cases hp : p < m
  · rw [List.getElem?_take_of_lt hp, List.getElem?_drop, Array.getElem?_toList, h.cell _ (by omega), hc p hp]
  · rw [List.getElem?_eq_none (by rw [List.length_take]; omega), List.getElem?_eq_none (by omega)]
end
end Go.Proofs.YtnneooidkbhbeaaGreatDoor.Fast
