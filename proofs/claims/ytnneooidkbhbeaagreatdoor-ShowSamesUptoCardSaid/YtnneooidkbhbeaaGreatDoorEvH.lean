/- A fast evaluator, part H: values as cells; literals; blocks that are made; addresses. Of no program. -/
import Derived.Test.YtnneooidkbhbeaaGreatDoorEvG
import Derived.Test.YtnneooidkbhbeaaGreatDoorEvC
set_option linter.unusedVariables false
set_option linter.unusedSimpArgs false
namespace Go.Proofs.YtnneooidkbhbeaaGreatDoor.Fast
open Go Go.RowKit Go.Proofs.YtnneooidkbhbeaaGreatDoor.Sim
noncomputable section

/-- a string of bytes is told by its number -/
theorem strN_bytes : ∀ (l : List UInt8), (List.range l.length).map (fun i => UInt8.ofNat (Nat.shiftRight (strN l) (8 * i))) = l
  | [] => rfl
  | a :: l => by
    have ih := strN_bytes l
    rw [List.length_cons, List.range_succ_eq_map, List.map_cons, List.map_map]
    have e : strN (a :: l) = a.toNat + 256 * strN l := rfl
    have ha : a.toNat < 256 := a.toNat_lt
    congr 1
    · show UInt8.ofNat (strN (a :: l) >>> 0) = a
      rw [Nat.shiftRight_zero, e]
      apply UInt8.toNat_inj.1
      show (a.toNat + 256 * strN l) % 2 ^ 8 = a.toNat
      omega
    · conv => rhs; rw [← ih]
      refine List.map_congr_left fun i _ => ?_
      show UInt8.ofNat (strN (a :: l) >>> (8 * (i + 1))) = UInt8.ofNat (strN l >>> (8 * i))
      rw [e, Nat.shiftRight_eq_div_pow, Nat.shiftRight_eq_div_pow, show 8 * (i + 1) = 8 + 8 * i by omega, Nat.pow_add, ← Nat.div_div_eq_div_mul]
      congr 2
      show (a.toNat + 256 * strN l) / 2 ^ 8 = strN l
      omega
theorem fvOf_up {v : Value} (h : oneB v = true) : (fvOf v).up = v := by
  unfold fvOf
  split
  · rfl
  · rfl
  · rename_i s
    show Value.string (bytesOf s.data.toList.length (strN s.data.toList)) = .string s
    unfold bytesOf
    rw [strN_bytes]
  · rfl
  · rfl
  · rfl
  · rfl
  · rfl
  · exact oneV_eq h
theorem fvP_true {v : Value} {k : FV → R} (h : fvP v k = true) : ∃ x : FV, x.up = v ∧ k x = true := by
  cases v with
  | bool b => cases b <;> exact ⟨_, rfl, h⟩
  | int i z =>
    have h' : intF z (fun z => k (.int i z)) = true := h
    rw [intF_eq] at h'
    exact ⟨_, rfl, h'⟩
  | string s => exact ⟨.str s.data.toList.length (strN s.data.toList), fvOf_up (v := .string s) rfl, h⟩
  | pointer a => cases a with
    | none => exact ⟨.val (.pointer none), rfl, h⟩
    | some a =>
      obtain ⟨b, o, sp⟩ := a
      cases sp with
      | none => exact ⟨.ptr b o, rfl, h⟩
      | some sp => exact ⟨.val (.pointer (some ⟨b, o, some sp⟩)), rfl, h⟩
  | slice a n c => cases a with
    | none => exact ⟨.nilS n c, rfl, h⟩
    | some a =>
      obtain ⟨b, o, sp⟩ := a
      cases sp with
      | none => exact ⟨.slc b o n c, rfl, h⟩
      | some sp => exact ⟨.val (.slice (some ⟨b, o, some sp⟩) n c), rfl, h⟩
  | map r => cases r with
    | none => exact ⟨.val (.map none), rfl, h⟩
    | some r => exact ⟨.map r, rfl, h⟩
  | func fn f c =>
    obtain ⟨f⟩ := f
    obtain ⟨c⟩ := c
    cases fn with
    | func g => exact ⟨.fn g f c, rfl, h⟩
    | method m => exact ⟨.val (.func (.method m) ⟨f⟩ ⟨c⟩), rfl, h⟩
    | methodOf a b => exact ⟨.val (.func (.methodOf a b) ⟨f⟩ ⟨c⟩), rfl, h⟩
    | via a b d e => exact ⟨.val (.func (.via a b d e) ⟨f⟩ ⟨c⟩), rfl, h⟩
    | yield l => exact ⟨.val (.func (.yield l) ⟨f⟩ ⟨c⟩), rfl, h⟩
  | agg c => exact not_bad h
  | tuple c => exact not_bad h
  | float a b => exact ⟨.val (.float a b), rfl, h⟩
  | complex a b c => exact ⟨.val (.complex a b c), rfl, h⟩
  | chan r => exact ⟨.val (.chan r), rfl, h⟩
  | nilFunc => exact ⟨.val .nilFunc, rfl, h⟩
  | iface t v => exact ⟨.val (.iface t v), rfl, h⟩
  | nilIface => exact ⟨.val .nilIface, rfl, h⟩
theorem rowOf_get : ∀ (l : List Value) (i : Nat) (f : Ro) (p : Nat), i + l.length ≤ 64 → p < 64 → Lr.get p (rowOf l i f) = if h : i ≤ p ∧ p < i + l.length then fvOf (l[p - i]'(by omega)) else Lr.get p f
  | [], i, f, p, _, _ => by rw [dif_neg (by simp only [List.length_nil]; omega)]; rfl
  | v :: l, i, f, p, hl, hp => by
    simp only [List.length_cons] at hl
    have ih := rowOf_get l (i + 1) (Lr.set i (fvOf v) f) p (by omega) hp
    show Lr.get p (rowOf l (i + 1) (Lr.set i (fvOf v) f)) = _
    rw [ih]
    by_cases h : i + 1 ≤ p ∧ p < i + 1 + l.length
    · rw [dif_pos h, dif_pos (by simp only [List.length_cons]; omega)]
      congr 1
      rw [List.getElem_cons, dif_neg (by omega)]
      congr 1
    · rw [dif_neg h, Lr_set _ _ (by omega) hp]
      by_cases he : p = i
      · subst he
        rw [if_pos rfl, dif_pos (by simp only [List.length_cons]; omega)]
        simp only [Nat.sub_self, List.getElem_cons_zero]
      · rw [if_neg he, dif_neg (by simp only [List.length_cons]; omega)]
theorem rowOf_up {l : List Value} (hl : l.length ≤ 64) (h1 : ∀ v ∈ l, oneB v = true) {p : Nat} (hp : p < l.length) (f : Ro) : l[p]? = some (Lr.get p (rowOf l 0 f)).up := by
  rw [rowOf_get l 0 f p (by omega) (by omega), dif_pos (by omega), fvOf_up (h1 _ (List.getElem_mem _)), List.getElem?_eq_getElem hp]
  simp
theorem rowsOf_get (s : Nat) : ∀ (m : Nat) (l : List Value) (i : Nat) (r : Rows) (q : Nat), i + m ≤ 512 → q < 512 → Lw.get q (rowsOf s m l i r) = if i ≤ q ∧ q < i + m then rowOf ((l.drop ((q - i) * s)).take s) 0 row0 else Lw.get q r
  | 0, l, i, r, q, _, _ => by rw [if_neg (by omega)]; rfl
  | m + 1, l, i, r, q, hm, hq => by
    show Lw.get q (rowsOf s m (l.drop s) (i + 1) (Lw.set i (rowOf (l.take s) 0 row0) r)) = _
    rw [rowsOf_get s m _ _ _ q (by omega) hq]
    by_cases h : i + 1 ≤ q ∧ q < i + 1 + m
    · rw [if_pos h, if_pos (by omega), List.drop_drop]
      congr 3
      have : q - i = (q - (i + 1)) + 1 := by omega
      rw [this, Nat.add_mul]
      omega
    · rw [if_neg h, Lw_set _ _ (by omega) hq]
      by_cases he : q = i
      · subst he
        rw [if_pos rfl, if_pos (by omega), Nat.sub_self, Nat.zero_mul]
        rfl
      · rw [if_neg he, if_neg (by omega)]
theorem rowsOf_cell {s m : Nat} {l : List Value} (hs : 0 < s) (hs2 : s ≤ 64) (hm : m ≤ 512) (hl : l.length = m * s) (h1 : ∀ v ∈ l, oneB v = true) {j : Nat} (hj : j < m * s) (r : Rows) : l[j]? = some (cellAt (rowsOf s m l 0 r) s j).up := by
  have hd := div_lt_of hj
  have hmod := Nat.mod_lt j hs
  have hdm : j / s * s + j % s = j := by rw [Nat.mul_comm]; exact Nat.div_add_mod j s
  have hle : j / s * s + s ≤ m * s := by rw [← Nat.succ_mul]; exact Nat.mul_le_mul_right _ hd
  unfold cellAt
  generalize j / s = q at *
  generalize j % s = r' at *
  rw [rowsOf_get s m l 0 r _ (by omega) (by omega), if_pos (by omega), Nat.sub_zero]
  have hlen : ((l.drop (q * s)).take s).length = s := by rw [List.length_take, List.length_drop]; omega
  rw [← rowOf_up (by omega) (fun v hv => h1 v (List.mem_of_mem_drop (List.mem_of_mem_take hv))) (by omega) row0, List.getElem?_take_of_lt hmod, List.getElem?_drop, hdm]
theorem one_row (f : Ro) : Lw.get 0 (one f) = f := rfl
theorem one_cell (f : Ro) {m j : Nat} (h : j < m) : cellAt (one f) m j = Lr.get j f := by
  unfold cellAt
  rw [Nat.div_eq_of_lt h, Nat.mod_eq_of_lt h, one_row]
theorem cell1_at (v : FV) : Lr.get 0 (cell1 v) = v := rfl
theorem r8_at {α : Type} (x : α) (q : Nat) (hq : q < 512) : (L512 α).get q (r8 (r8 (r8 x))) = x := by
  show (L64 α).get (q % 64) ((L8 (F64 α)).get (q / 64) (r8 (r8 (r8 x)))) = x
  rw [r8_get]
  show (L8 α).get (q % 64 % 8) ((L8 (F8 α)).get (q % 64 / 8) (r8 (r8 x))) = x
  rw [r8_get, r8_get]

section
variable {P : Program} {B : Nat} {w0 : Base} {n : Nat} {dst : Option Tmp} {ty : TypeId} {pos : String} {after : Array Edge} {guard : Option (Nat × Bool)}
theorem accT_ok {d : Tmp} {a : Acc} (h : accT n d = some a) : AccOk n (.tmp d) a := by
  intro L t hL hn
  rw [accT_def] at h
  cases hq : (Nat.blt d n && Nat.ble n 512) with
  | false => rw [hq] at h; cases h
  | true =>
    rw [hq, cond_true] at h
    injection h with h; subst h
    rw [Bool.and_eq_true] at hq
    have hd := blt_lt hq.1
    have h5 : n ≤ 512 := Nat.le_of_ble_eq_true hq.2
    show ((w512 SV d).get L).up = t.getD d undef
    rw [w512_get (by omega), Array.getD_eq_getD_getElem?, hL.get d (by omega)]
    rfl
theorem svOf_up {v : Value} (h : svOk v = true) : (svOf v).up = v := by
  unfold svOf
  unfold svOk at h
  split
  · rename_i c
    rw [Bool.and_eq_true] at h
    have hl : c.length ≤ 64 := by have := Nat.le_of_ble_eq_true h.2; simpa using this
    have h1 : ∀ v ∈ c, oneB v = true := fun v hv => List.all_eq_true.1 (by simpa using h.1) v hv
    show Value.agg ⟨rowL (rowOf c 0 row0) c.length⟩ = .agg ⟨c⟩
    congr 2
    apply List.ext_getElem?
    intro p
    rw [rowL_get]
    by_cases hp : p < c.length
    · rw [if_pos hp, rowOf_up hl h1 hp row0]
    · rw [if_neg hp, List.getElem?_eq_none (by omega)]
  · rename_i hna
    refine fvOf_up ?_
    cases v <;> first
      | rfl
      | (cases h; done)
      | exact absurd rfl (hna _)
theorem accOf_ok {gl : Nat → Bool} {x : Operand} {a : Acc} (h : accOf gl n x = some a) : AccOk n x a := by
  cases x with
  | tmp d => exact accT_ok h
  | const v =>
    intro L t hL hn
    unfold accOf at h
    dsimp only at h
    cases hq : free v && svOk v with
    | false => rw [hq] at h; cases h
    | true =>
      rw [hq, cond_true] at h
      injection h with h; subst h
      rw [Bool.and_eq_true] at hq
      exact svOf_up hq.2
  | global g =>
    intro L t hL hn
    unfold accOf at h
    dsimp only at h
    cases hq : gl g with
    | false => rw [hq] at h; cases h
    | true =>
      rw [hq, cond_true] at h
      injection h with h; subst h
      rfl
  | func f =>
    intro L t hL hn
    unfold accOf at h
    dsimp only at h
    injection h with h; subst h
    rfl
theorem zeroB_spec {e : TypeId} {z : List Value} (h : zeroB P e = some z) : ∃ i v, P.info? e = some i ∧ i.zero = some v ∧ v.cells.toList = z ∧ v.cells.size = i.size ∧ 0 < i.size ∧ z.length = i.size ∧ sizeB P e = i.size ∧ ∀ u ∈ z, oneB u = true := by
  unfold zeroB at h
  unfold sizeB
  cases hi : P.info? e with
  | none => rw [hi] at h; cases h
  | some i =>
    rw [hi] at h
    dsimp only at h
    cases hz : i.zero with
    | none => rw [hz] at h; cases h
    | some v =>
      rw [hz] at h
      dsimp only at h
      cases hq : (Nat.beq v.cells.size i.size && Nat.blt 0 i.size && v.cells.toList.all oneB) with
      | false => rw [hq] at h; cases h
      | true =>
        rw [hq, cond_true] at h
        injection h with h
        rw [Bool.and_eq_true, Bool.and_eq_true] at hq
        have h1 := beq_eq hq.1.1
        refine ⟨i, v, rfl, hz, h, h1, blt_lt hq.1.2, by rw [← h, Array.length_toList]; exact h1, rfl, fun u hu => List.all_eq_true.1 hq.2 u (by rw [h]; exact hu)⟩

/-- blocks that are made -/
theorem mk_ghost {o : Oper} (hk : okOp o = true) (hc : ∀ t, cls t o = .ghost) {t : Operand → Value} {A : AW} {c : Array Value} {e : TypeId} {m : Option (Nat × Nat)} (h : ghostA P t o = some (c, e, m)) : quietA P t A o = some (.ghost c e m) := by
  unfold quietA
  rw [hk, cond_true, hc]
  dsimp only
  rw [h]
theorem mkBox_true {rows : Rows} {m esz : Nat} {e : TypeId} {F : FM} {k : SV → FM → R} {A : AW} {c : Array Value} (hM : MR F A) (h : mkBox rows m esz e F k = true) (h0 : 0 < esz) (h1 : esz ≤ 64) (h2 : m ≤ 512) (hs : c.size = m * esz) (hc : ∀ j, j < m * esz → c[j]? = some (cellAt rows esz j).up) :
    A.room = true ∧ Post k (ghostV A.next none) (A.add ⟨.cells c e (0, 0), false, false⟩) := by
  obtain ⟨h3, h4⟩ := newF_true h
  refine ⟨hM.room h3, _, _, ?_, hM.add h3 (.blk h0 h1 h2 hs hc), h4⟩
  rw [hM.next]
  rfl
theorem rAlloc_ok {e : TypeId} {z : List Value} (hz : zeroB P e = some z) {m s : Nat} (hl : m * s = z.length) (h2 : m ≤ 512) (h1 : s ≤ 64) (h0 : 0 < s) (hk : okOp ⟨dst, .alloc e, ty, pos, after, guard⟩ = true) : QOk P n ⟨dst, .alloc e, ty, pos, after, guard⟩ (rAlloc (rowsOf s m z 0 rows0) m s e) := by
  intro rec L F k t A _ _ hM h
  obtain ⟨i, v, hi, hv, hcz, _, _, _, _, hone⟩ := zeroB_spec hz
  rw [mk_ghost hk (fun _ => rfl) (c := v.cells) (e := e) (m := none) (by show (match P.info? e with | some i => _ | none => none) = _; rw [hi]; dsimp only; rw [hv])]
  refine mkBox_true hM h h0 h1 h2 (by rw [← Array.length_toList, hcz, hl]) fun j hj => ?_
  rw [← rowsOf_cell h0 h1 h2 hl.symm hone hj rows0, ← hcz, Array.getElem?_toList]
theorem rBox_ok {e : TypeId} {x : Operand} {a : Acc} (ha : AccOk n x a) (hk : okOp ⟨dst, .box e x, ty, pos, after, guard⟩ = true) : QOk P n ⟨dst, .box e x, ty, pos, after, guard⟩ (rBox e a) := by
  intro rec L F k t A h1 h2 hM h
  obtain ⟨v, h3, h4⟩ := valK_true h
  have e1 := ha L t h1 h2
  rw [h3] at e1
  have hcs : (ev t x).cells = #[v.up] := by rw [← e1]; exact oneB_cells (up_one v)
  rw [mk_ghost hk (fun _ => rfl) (c := (ev t x).cells) (e := e) (m := none) rfl]
  refine mkBox_true hM h4 (by decide) (by decide) (by decide) (by rw [hcs]; rfl) fun j hj => ?_
  have : j = 0 := by omega
  subst this
  rw [one_cell _ (by decide), cell1_at, hcs]
  rfl
theorem rBoxN_ok {e : TypeId} {x : Operand} {a : Acc} {m : Nat} (h0 : 0 < m) (h1' : m ≤ 64) (ha : AccOk n x a) (hk : okOp ⟨dst, .box e x, ty, pos, after, guard⟩ = true) : QOk P n ⟨dst, .box e x, ty, pos, after, guard⟩ (rBoxN m e a) := by
  intro rec L F k t A h1 h2 hM h
  obtain ⟨m', f, h3, h4⟩ := rowK_true h
  obtain ⟨h5, h6⟩ := ifK_true h4
  obtain rfl := beq_eq h5
  have e1 := ha L t h1 h2
  rw [h3] at e1
  have hcs : (ev t x).cells = ⟨rowL f m'⟩ := by rw [← e1]; rfl
  rw [mk_ghost hk (fun _ => rfl) (c := (ev t x).cells) (e := e) (m := none) rfl]
  refine mkBox_true hM h6 h0 h1' (by decide) (by rw [hcs, Nat.one_mul]; exact rowL_len f m') fun j hj => ?_
  rw [Nat.one_mul] at hj
  rw [one_cell _ hj, hcs]
  show (rowL f m').toArray[j]? = _
  rw [List.getElem?_toArray, rowL_get, if_pos hj]

/-- addresses -/
theorem rFieldAddr_ok {s : TypeId} {x : Operand} {i : Nat} {a : Acc} {fs : Array Field} {fd : Field} (hu : P.underlying s = some (.struct fs)) (hf : fs[i]? = some fd) (hz : sizeB P fd.type ≠ 0) (ha : AccOk n x a) (hk : okOp ⟨dst, .fieldAddr s x i, ty, pos, after, guard⟩ = true) : QOk P n ⟨dst, .fieldAddr s x i, ty, pos, after, guard⟩ (rFieldAddr fd.offset a) :=
  QOk.pure hk (fun _ => rfl) fun rec L F k t h1 h2 h => by
    obtain ⟨b, o, h3, h4⟩ := ptrK_true h
    have e1 := ha L t h1 h2
    rw [h3] at e1
    refine ⟨_, ?_, (h4 : k (.val (.ptr b (o + fd.offset))) F = true)⟩
    show pureRun P (fieldAtA s (ev t x) i) = _
    rw [← e1]
    unfold fieldAtA
    refine pureRun_bind.2 ⟨_, run_und hu, ?_⟩
    dsimp only
    rw [hf]
    dsimp only
    refine pureRun_bind.2 ⟨⟨b, o, none⟩, rfl, pureRun_bind.2 ⟨⟨b, o + fd.offset, none⟩, ?_, rfl⟩⟩
    unfold fieldPlaceA
    unfold sizeB at hz
    cases hi : P.info? fd.type with
    | none => rw [hi] at hz; exact absurd rfl hz
    | some i2 =>
      rw [hi] at hz
      refine pureRun_bind.2 ⟨i2.size, ?_, ?_⟩
      · unfold sizeOf typeInfo program
        simp only [Bind.bind, Pure.pure, Sem.bind, pureRun, runA, hi]
      · rw [if_neg hz, add_none]
        rfl
theorem rIndexAddr_ok {s : TypeId} {x y : Operand} {a b' : Acc} {e : TypeId} {i : TypeInfo} (hu : P.underlying s = some (.slice e)) (hi : P.info? e = some i) (ha : AccOk n x a) (hb : AccOk n y b') (hk : okOp ⟨dst, .indexAddr s x y, ty, pos, after, guard⟩ = true) : QOk P n ⟨dst, .indexAddr s x y, ty, pos, after, guard⟩ (rIndexAddr i.size a b') :=
  QOk.pure hk (fun _ => rfl) fun rec L F k t h1 h2 h => by
    rcases slcK_true h with ⟨_, _, _, h4⟩ | ⟨b, o, m, c, h3, h4⟩
    · exact not_bad h4
    obtain ⟨j, w, h5, h6⟩ := intK_true h4
    obtain ⟨q, rfl, h7⟩ := natV_true h6
    obtain ⟨h8, h9⟩ := ifK_true h7
    have hq := blt_lt h8
    have e1 : ev t x = .slice (some ⟨b, o, none⟩) m c := (ha L t h1 h2).symm.trans (by rw [h3]; rfl)
    have e2 : ev t y = .int j (Int.ofNat q) := (hb L t h1 h2).symm.trans (by rw [h5]; rfl)
    refine ⟨_, ?_, (h9 : k (.val (.ptr b (o + q * i.size))) F = true)⟩
    show pureRun P (indexAtA s (ev t x) (ev t y)) = _
    rw [e1, e2]
    unfold indexAtA
    refine pureRun_bind.2 ⟨(j, Int.ofNat q), rfl, pureRun_bind.2 ⟨_, run_und hu, pureRun_bind.2 ⟨(some ⟨b, o, none⟩, m, e), rfl, ?_⟩⟩⟩
    dsimp only
    rw [if_pos (show (0 : Int) ≤ Int.ofNat q ∧ Int.ofNat q < m from ⟨Int.natCast_nonneg q, by simp only [Int.ofNat_eq_natCast]; omega⟩)]
    refine pureRun_bind.2 ⟨i.size, ?_, ?_⟩
    · unfold sizeOf typeInfo program
      simp only [Bind.bind, Pure.pure, Sem.bind, pureRun, runA, hi]
    · rw [show (Int.ofNat q).toNat = q from rfl, add_none]
      rfl
theorem rIndexArr_ok {s : TypeId} {x y : Operand} {a b' : Acc} {len : Nat} {e : TypeId} {i : TypeInfo} (hu : P.underlying s = some (.array len e)) (hi : P.info? e = some i) (ha : AccOk n x a) (hb : AccOk n y b') (hk : okOp ⟨dst, .indexAddr s x y, ty, pos, after, guard⟩ = true) : QOk P n ⟨dst, .indexAddr s x y, ty, pos, after, guard⟩ (rIndexArr len i.size a b') :=
  QOk.pure hk (fun _ => rfl) fun rec L F k t h1 h2 h => by
    obtain ⟨b, o, h3, h4⟩ := ptrK_true h
    obtain ⟨j, w, h5, h6⟩ := intK_true h4
    obtain ⟨q, rfl, h7⟩ := natV_true h6
    obtain ⟨h8, h9⟩ := ifK_true h7
    have hq := blt_lt h8
    have e1 : ev t x = .pointer (some ⟨b, o, none⟩) := (ha L t h1 h2).symm.trans (by rw [h3]; rfl)
    have e2 : ev t y = .int j (Int.ofNat q) := (hb L t h1 h2).symm.trans (by rw [h5]; rfl)
    refine ⟨_, ?_, (h9 : k (.val (.ptr b (o + q * i.size))) F = true)⟩
    show pureRun P (indexAtA s (ev t x) (ev t y)) = _
    rw [e1, e2]
    unfold indexAtA
    refine pureRun_bind.2 ⟨(j, Int.ofNat q), rfl, pureRun_bind.2 ⟨_, run_und hu, pureRun_bind.2 ⟨⟨b, o, none⟩, rfl, pureRun_bind.2 ⟨(some ⟨b, o, none⟩, len, e), rfl, ?_⟩⟩⟩⟩
    dsimp only
    rw [if_pos (show (0 : Int) ≤ Int.ofNat q ∧ Int.ofNat q < len from ⟨Int.natCast_nonneg q, by simp only [Int.ofNat_eq_natCast]; omega⟩)]
    refine pureRun_bind.2 ⟨i.size, ?_, ?_⟩
    · unfold sizeOf typeInfo program
      simp only [Bind.bind, Pure.pure, Sem.bind, pureRun, runA, hi]
    · rw [show (Int.ofNat q).toNat = q from rfl, add_none]
      rfl
/-- fields of values -/
theorem run_isAgg {s : TypeId} {q : Bool} (h : aggB P s = some q) : pureRun P (isAgg s) = some q := by
  unfold aggB at h
  cases hu : P.underlying s with
  | none => rw [hu] at h; cases h
  | some d =>
    rw [hu] at h
    refine pureRun_bind.2 ⟨d, run_und hu, ?_⟩
    cases d <;> (injection h with h; subst h; rfl)
theorem rField_ok {s : TypeId} {x : Operand} {i : Nat} {a : Acc} {fs : Array Field} {fd : Field} (hu : P.underlying s = some (.struct fs)) (hf : fs[i]? = some fd) (hg : aggB P fd.type = some false) (ha : AccOk n x a) (hk : okOp ⟨dst, .field s x i, ty, pos, after, guard⟩ = true) : QOk P n ⟨dst, .field s x i, ty, pos, after, guard⟩ (rField fd.offset a) :=
  QOk.pure hk (fun _ => rfl) fun rec L F k t h1 h2 h => by
    obtain ⟨m, f, h3, h4⟩ := rowK_true h
    obtain ⟨h5, h6⟩ := ifK_true h4
    obtain ⟨h5', h6⟩ := ifK_true h6
    have hlt := blt_lt h5
    have h64 := blt_lt h5'
    rw [fvF_eq, w64_get h64] at h6
    have e1 : ev t x = .agg ⟨rowL f m⟩ := (ha L t h1 h2).symm.trans (by rw [h3]; rfl)
    refine ⟨_, ?_, h6⟩
    show pureRun P (Instr.field s (ev t x) i) = _
    rw [e1]
    unfold Instr.field
    refine pureRun_bind.2 ⟨_, run_und hu, ?_⟩
    dsimp only
    rw [hf]
    dsimp only
    refine pureRun_bind.2 ⟨⟨rowL f m⟩, rfl, ?_⟩
    unfold part
    refine pureRun_bind.2 ⟨false, run_isAgg hg, ?_⟩
    have : (⟨rowL f m⟩ : Array Value)[fd.offset]? = some (Lr.get fd.offset f).up := by
      show (rowL f m).toArray[fd.offset]? = _
      rw [List.getElem?_toArray, rowL_get, if_pos hlt]
    simp only [this]
    rfl
theorem rFieldN_ok {s : TypeId} {x : Operand} {i : Nat} {a : Acc} {fs : Array Field} {fd : Field} {it : TypeInfo} (hu : P.underlying s = some (.struct fs)) (hf : fs[i]? = some fd) (hg : aggB P fd.type = some true) (hi : P.info? fd.type = some it) (ha : AccOk n x a) (hk : okOp ⟨dst, .field s x i, ty, pos, after, guard⟩ = true) : QOk P n ⟨dst, .field s x i, ty, pos, after, guard⟩ (rFieldN fd.offset it.size a) :=
  QOk.pure hk (fun _ => rfl) fun rec L F k t h1 h2 h => by
    obtain ⟨m, f, h3, h4⟩ := rowK_true h
    obtain ⟨h5, h6⟩ := ifK_true h4
    obtain ⟨h5', h6⟩ := ifK_true h6
    have hle : fd.offset + it.size ≤ m := Nat.le_of_ble_eq_true h5
    have h64 : fd.offset + it.size ≤ 64 := Nat.le_of_ble_eq_true h5'
    obtain ⟨r, g1, g2⟩ := copyC_true _ _ _ _ _ _ h64 (by omega) h6
    have e1 : ev t x = .agg ⟨rowL f m⟩ := (ha L t h1 h2).symm.trans (by rw [h3]; rfl)
    refine ⟨_, ?_, g1⟩
    show pureRun P (Instr.field s (ev t x) i) = _
    rw [e1]
    unfold Instr.field
    refine pureRun_bind.2 ⟨_, run_und hu, ?_⟩
    dsimp only
    rw [hf]
    dsimp only
    refine pureRun_bind.2 ⟨⟨rowL f m⟩, rfl, ?_⟩
    unfold part
    refine pureRun_bind.2 ⟨true, run_isAgg hg, ?_⟩
    rw [if_pos rfl]
    refine pureRun_bind.2 ⟨it.size, ?_, ?_⟩
    · unfold sizeOf typeInfo program
      simp only [Bind.bind, Pure.pure, Sem.bind, pureRun, runA, hi]
    show some (Value.agg ((⟨rowL f m⟩ : Array Value).extract fd.offset (fd.offset + it.size))) = some (Value.agg ⟨rowL r it.size⟩)
    congr 2
    apply Array.toList_inj.1
    show ((rowL f m).toArray.extract fd.offset (fd.offset + it.size)).toList = rowL r it.size
    rw [List.extract_toArray]
    simp only [List.extract_eq_take_drop]
    apply List.ext_getElem?
    intro p
    rw [rowL_get]
    by_cases hp : p < it.size
    · rw [List.getElem?_take_of_lt (by omega), List.getElem?_drop, rowL_get, if_pos (by omega), if_pos hp, g2 p (by omega), if_pos (by omega), Nat.sub_zero]
    · rw [List.getElem?_eq_none (by rw [List.length_take]; omega), if_neg hp]
end
end
end Go.Proofs.YtnneooidkbhbeaaGreatDoor.Fast
