/- A fast evaluator, part G: memory. Of no program. -/
import Derived.Test.YtnneooidkbhbeaaGreatDoorEvF
set_option linter.unusedVariables false
set_option linter.unusedSimpArgs false
namespace Go.Proofs.YtnneooidkbhbeaaGreatDoor.Fast
open Go Go.RowKit Go.Proofs.YtnneooidkbhbeaaGreatDoor.Sim
noncomputable section
section
variable {P : Program} {B : Nat} {w0 : Base} {n : Nat} {dst : Option Tmp} {ty : TypeId} {pos : String} {after : Array Edge} {guard : Option (Nat × Bool)}
theorem load_one {s : TypeId} {A : AW} {b o : Nat} {v : Value} (hs : aggB P s = some false) (hc : cellsA A b o 1 = some [v]) : loadL P A s (.pointer (some ⟨b, o, none⟩)) = some ((b, o, [v]), v) := by
  unfold aggB at hs
  unfold loadL
  cases hu : P.underlying s with
  | none => rw [hu] at hs; cases hs
  | some d =>
    rw [hu] at hs
    cases d <;> first
      | (cases hs; done)
      | (dsimp only; rw [hc])
theorem load_all {s : TypeId} {A : AW} {b o : Nat} {l : List Value} (hs : aggB P s = some true) (hc : cellsA A b o (sizeB P s) = some l) (hi : ∃ i, P.info? s = some i) : loadL P A s (.pointer (some ⟨b, o, none⟩)) = some ((b, o, l), .agg l.toArray) := by
  unfold aggB at hs
  unfold loadL
  obtain ⟨i, hi⟩ := hi
  have hz : sizeB P s = i.size := by unfold sizeB; rw [hi]
  rw [hz] at hc
  cases hu : P.underlying s with
  | none => rw [hu] at hs; cases hs
  | some d =>
    rw [hu] at hs
    cases d <;> first
      | (cases hs; done)
      | (dsimp only; rw [hi]; dsimp only; rw [hc])
theorem opM_load {s : TypeId} {x : Operand} {t : Operand → Value} {A : AW} {h : Held} {v : Value} (hl : loadL P A s (t x) = some (h, v)) : opM P t A ⟨dst, .load s x, ty, pos, after, guard⟩ = some v := by
  show (match loadL P A s (t x) with | some (_, v) => some v | none => none) = some v
  rw [hl]
theorem rLoad_ok {s : TypeId} {x : Operand} {a : Acc} (hs : aggB P s = some false) (ha : AccOk n x a) (hk : okOp ⟨dst, .load s x, ty, pos, after, guard⟩ = true) : QOk P n ⟨dst, .load s x, ty, pos, after, guard⟩ (rLoad a) :=
  QOk.val fun rec L F k t A h1 h2 hM h => by
    obtain ⟨b, o, h3, h4⟩ := ptrK_true h
    obtain ⟨hb, rows, m, esz, e, fam, ro, h5, h6⟩ := blkK_true h4
    obtain ⟨c, hc⟩ := hM.at hb h5
    obtain ⟨h7, h8⟩ := inB_true h6
    rw [fvF_eq, wCell_get h7 hc.h0 hc.h1 hc.h2] at h8
    have e1 := ha L t h1 h2
    rw [h3] at e1
    have hcell : cellsA A b o 1 = some [(cellAt rows esz o).up] := hc.cells (by omega) rfl fun p hp => by
      have : p = 0 := by omega
      subst this; rfl
    refine ⟨_, quiet_mem hk rfl (opM_load (t := ev t) (by rw [← e1]; exact load_one hs hcell)), _, F, rfl, hM, h8⟩
theorem rLoadN_ok {s : TypeId} {x : Operand} {a : Acc} (hs : aggB P s = some true) (hi : ∃ i, P.info? s = some i) (ha : AccOk n x a) (hk : okOp ⟨dst, .load s x, ty, pos, after, guard⟩ = true) : QOk P n ⟨dst, .load s x, ty, pos, after, guard⟩ (rLoadN (sizeB P s) a) :=
  QOk.val fun rec L F k t A h1 h2 hM h => by
    obtain ⟨b, o, h3, h4⟩ := ptrK_true h
    obtain ⟨hb, rows, m, esz, e, fam, ro, h5, h6⟩ := blkK_true h4
    obtain ⟨c, hc⟩ := hM.at hb h5
    obtain ⟨r, g1, g2, g3⟩ := subK_true hc.h0 hc.h1 hc.h2 h6
    have e1 := ha L t h1 h2
    rw [h3] at e1
    have hcell : cellsA A b o (sizeB P s) = some (rowL r (sizeB P s)) := hc.cells g2 (rowL_len _ _) fun p hp => by
      rw [rowL_get, if_pos hp, (g3 p hp).2]
    refine ⟨_, quiet_mem hk rfl (opM_load (t := ev t) (by rw [← e1]; exact load_all hs hcell hi)), _, F, rfl, hM, g1⟩

/-- stores -/
theorem AW.store_at {A : AW} {b o : Nat} {c : Array Value} {e : TypeId} {f : Nat × Nat} {fam : Bool} (hb : A.heap.get b = some ⟨.cells c e f, fam, false⟩) (ho : o < c.size) (v : Value) : A.store ⟨b, o, none⟩ v = some (A.put b (some ⟨.cells (c.setIfInBounds o v) e f, fam, false⟩)) := by
  unfold AW.store
  rw [hb]
  have : Nat.blt o c.size = true := Nat.ble_eq_true_of_le ho
  simp [this]
theorem run_storeCells {b o : Nat} (hb : b < 32768) {e : TypeId} {f : Nat × Nat} {fam : Bool} : ∀ (l : List Value) (i : Nat) (A : AW) (c : Array Value), A.heap.get b = some ⟨.cells c e f, fam, false⟩ → o + i + l.length ≤ c.size → (∀ v ∈ l, oneB v = true) →
    ∃ A' c', runA P (storeCells ⟨b, o, none⟩ l i) A = some ((), A') ∧ A'.next = A.next ∧ (∀ d, d ≠ b → A'.heap.get d = A.heap.get d) ∧ A'.heap.get b = some ⟨.cells c' e f, fam, false⟩ ∧ c'.size = c.size ∧ ∀ p, c'[p]? = if o + i ≤ p ∧ p < o + i + l.length then l[p - (o + i)]? else c[p]?
  | [], i, A, c, hc, _, _ => ⟨A, c, rfl, rfl, fun _ _ => rfl, hc, rfl, fun p => by rw [if_neg (by simp only [List.length_nil]; omega)]⟩
  | v :: l, i, A, c, hc, hle, hone => by
    have hv := hone v List.mem_cons_self
    simp only [List.length_cons] at hle
    have hlt : o + i < c.size := by omega
    have hst := AW.store_at (o := o + i) hc hlt v
    have hget : (A.put b (some ⟨.cells (c.setIfInBounds (o + i) v) e f, fam, false⟩)).heap.get b = some ⟨.cells (c.setIfInBounds (o + i) v) e f, fam, false⟩ := by rw [AW.put_at hb, if_pos rfl]
    obtain ⟨A', c', g1, g2, g3, g4, g5, g6⟩ := run_storeCells (o := o) hb l (i + 1) _ _ hget (by rw [Array.size_setIfInBounds]; omega) (fun u hu => hone u (List.mem_cons_of_mem _ hu))
    refine ⟨A', c', ?_, g2, fun d hd => by rw [g3 d hd, AW.put_at hb, if_neg hd], g4, by rw [g5, Array.size_setIfInBounds], fun p => ?_⟩
    · show runA P (Sem.bind (store ((⟨b, o, none⟩ : Addr).add i) v) fun _ => storeCells ⟨b, o, none⟩ l (i + 1)) A = _
      rw [add_none]
      have : runA P (store ⟨b, o + i, none⟩ v) A = some ((), A.put b (some ⟨.cells (c.setIfInBounds (o + i) v) e f, fam, false⟩)) := by
        unfold store
        cases v <;> first
          | (cases hv; done)
          | (simp only [runA]; rw [hst])
      rw [runA_bind, this]
      exact g1
    · rw [g6 p, Array.getElem?_setIfInBounds]
      simp only [List.length_cons]
      by_cases h1 : p = o + i
      · subst h1
        rw [if_neg (by omega), if_pos rfl, if_pos (by omega), if_pos (by omega), Nat.sub_self]
        rfl
      · by_cases h2 : o + (i + 1) ≤ p ∧ p < o + (i + 1) + l.length
        · rw [if_pos h2, if_pos (by omega), show p - (o + i) = p - (o + (i + 1)) + 1 by omega, List.getElem?_cons_succ]
        · rw [if_neg h2, if_neg (fun e => h1 e.symm), if_neg (by omega)]
theorem run_storeAt {s : TypeId} {i : TypeInfo} (hi : P.info? s = some i) {b o : Nat} {v : Value} (hv : v.cells.size = i.size) (A : AW) : runA P (Instr.storeAt s (.pointer (some ⟨b, o, none⟩)) v) A = runA P (storeCells ⟨b, o, none⟩ v.cells.toList) A := by
  unfold Instr.storeAt storeVar
  simp only [Instr.sureAddr, Bind.bind, Pure.pure, Sem.bind, runA, sizeOf, typeInfo, program, hi]
  rw [if_neg (by rw [hv]; simp)]
theorem oneB_cells {v : Value} (h : oneB v = true) : v.cells = #[v] := by cases v <;> first | rfl | cases h
theorem opA_store {s : TypeId} {x y : Operand} {t : Operand → Value} {A A' : AW} (hk : okOp ⟨dst, .store s x y, ty, pos, after, guard⟩ = true) (h : runA P (Instr.storeAt s (t x) (t y)) A = some ((), A')) : opA P t ⟨dst, .store s x y, ty, pos, after, guard⟩ A = some (.skip, A') := by
  unfold opA
  rw [hk, cond_true]
  dsimp only
  rw [h]
theorem rStore_ok {s : TypeId} {x y : Operand} {a a' : Acc} {i : TypeInfo} (hi : P.info? s = some i) (hz : i.size = 1) (ha : AccOk n x a) (hb' : AccOk n y a') (hk : okOp ⟨dst, .store s x y, ty, pos, after, guard⟩ = true) : LOk P B w0 n ⟨dst, .store s x y, ty, pos, after, guard⟩ (rStore a a') := by
  intro rec L F k t A hR h1 h2 hM h
  obtain ⟨b, o, h3, h4⟩ := ptrK_true h
  obtain ⟨u, h5, h6⟩ := valK_true h4
  obtain ⟨hb, rows, m, esz, e, fam, ro, h7, h8⟩ := blkK_true h6
  obtain ⟨h9, h10⟩ := ifK_true h8
  obtain ⟨h11, h12⟩ := inB_true h10
  obtain ⟨c, hc⟩ := hM.at hb h7
  rw [wCell_put h11 hc.h0 hc.h1 hc.h2] at h12
  have h13 := putF_true hb h12
  have hro : ro = false := by cases ro <;> first | rfl | cases h9
  subst hro
  have e1 := ha L t h1 h2
  have e2 := hb' L t h1 h2
  rw [h3] at e1
  rw [h5] at e2
  have hcs := oneB_cells (up_one u)
  obtain ⟨A', c', g1, g2, g3, g4, g5, g6⟩ := run_storeCells (P := P) (o := o) hb u.up.cells.toList 0 A c hc.get (by rw [hcs, hc.size]; simp; omega) (by rw [hcs]; intro v hv; simp at hv; rw [hv]; exact up_one u)
  have hrun : runA P (Instr.storeAt s (ev t x) (ev t y)) A = some ((), A') := by
    rw [← e1, ← e2]
    show runA P (Instr.storeAt s (.pointer (some ⟨b, o, none⟩)) u.up) A = _
    rw [run_storeAt hi (by rw [hcs, hz]; rfl)]
    exact g1
  rw [opA_store hk hrun]
  refine ⟨u0, _, rfl, hM.put hb g2 ?_ g3, h13⟩
  rw [g4]
  refine .blk hc.h0 hc.h1 hc.h2 (by rw [g5]; exact hc.size) fun j hj => ?_
  rw [g6 j, cell_set h11 hc.h0 hc.h1 hc.h2 _ _ hj]
  rw [hcs]
  by_cases hjo : j = o
  · subst hjo
    rw [if_pos (by simp), if_pos rfl]
    simp
  · rw [if_neg (by simp; omega), if_neg hjo]
    exact hc.cell j hj
theorem rStoreN_ok {s : TypeId} {x y : Operand} {a a' : Acc} {i : TypeInfo} (hi : P.info? s = some i) (hpos : 0 < i.size) (ha : AccOk n x a) (hb' : AccOk n y a') (hk : okOp ⟨dst, .store s x y, ty, pos, after, guard⟩ = true) : LOk P B w0 n ⟨dst, .store s x y, ty, pos, after, guard⟩ (rStoreN i.size a a') := by
  intro rec L F k t A hR h1 h2 hM h
  obtain ⟨b, o, h3, h4⟩ := ptrK_true h
  obtain ⟨m', g, h5, h6⟩ := rowK_true h4
  obtain ⟨h5', h6'⟩ := ifK_true h6
  clear h6
  have hm' := beq_eq h5'
  subst hm'
  obtain ⟨hb, rows, m, esz, e, fam, ro, h7, h8⟩ := blkK_true h6'
  clear h6' h4 h
  obtain ⟨h9, h10⟩ := ifK_true h8
  obtain ⟨h11, h12⟩ := inB_true h10
  obtain ⟨c, hc⟩ := hM.at hb h7
  have hro : ro = false := by cases ro <;> first | rfl | cases h9
  subst hro
  have e1 := ha L t h1 h2
  have e2 := hb' L t h1 h2
  rw [h3] at e1
  rw [h5] at e2
  have hd := div_lt_of h11
  have hmd := Nat.mod_lt o hc.h0
  have hdm : o / esz * esz + o % esz = o := by rw [Nat.mul_comm]; exact Nat.div_add_mod o esz
  have hle : o / esz * esz + esz ≤ m * esz := by rw [← Nat.succ_mul]; exact Nat.mul_le_mul_right _ hd
  -- the new rows
  obtain ⟨rows', hk', hfit, hcell⟩ : ∃ rows', k u0 ⟨Lh.set b (.blk rows' m esz e fam false) F.heap, F.next⟩ = true ∧ o + i.size ≤ m * esz ∧ ∀ j, j < m * esz → (cellAt rows' esz j) = if o ≤ j ∧ j < o + i.size then Lr.get (j - o) g else cellAt rows esz j := by
    have h1' := hc.h1
    have h2' := hc.h2
    cases hq : (Nat.beq i.size esz && aligned o esz) with
    | true =>
      rw [hq] at h12
      rw [Bool.and_eq_true] at hq
      have q1 := beq_eq hq.1
      have q2 : o % esz = 0 := beq_eq hq.2
      have h13 : (w512 Ro (o / esz)).put g rows (fun rows => putF b (.blk rows m esz e fam false) F fun F => k u0 F) = true := h12
      rw [w512_put (by omega)] at h13
      refine ⟨_, putF_true hb h13, by omega, fun j hj => ?_⟩
      rw [row_set hd hc.h0 hc.h2 _ _ hj]
      have hdj : j / esz * esz + j % esz = j := by rw [Nat.mul_comm]; exact Nat.div_add_mod j esz
      have hmj := Nat.mod_lt j hc.h0
      by_cases hje : j / esz = o / esz
      · rw [if_pos hje]
        rw [hje] at hdj
        rw [if_pos (by omega), show j - o = j % esz by omega]
      · rw [if_neg hje, if_neg]
        rintro ⟨r1, r2⟩
        apply hje
        have : j = o / esz * esz + (j - o) := by omega
        rw [this]
        exact div_of (by omega)
    | false =>
      rw [hq] at h12
      obtain ⟨q1, h13⟩ := ifK_true (show ifK (Nat.ble (Nat.add (Nat.mod o esz) i.size) esz) _ bad = true from h12)
      have q1' : o % esz + i.size ≤ esz := Nat.le_of_ble_eq_true q1
      have h14 : copyC i.size 0 (o % esz) g ((w512 Ro (o / esz)).get rows) (fun r => (w512 Ro (o / esz)).put r rows fun rows => putF b (.blk rows m esz e fam false) F fun F => k u0 F) = true := h13
      rw [w512_get (by omega)] at h14
      obtain ⟨r, r1, r2⟩ := copyC_true _ _ _ _ _ _ (by omega) (by omega) h14
      rw [w512_put (by omega)] at r1
      refine ⟨_, putF_true hb r1, by omega, fun j hj => ?_⟩
      rw [row_set hd hc.h0 hc.h2 _ _ hj]
      have hdj : j / esz * esz + j % esz = j := by rw [Nat.mul_comm]; exact Nat.div_add_mod j esz
      have hmj := Nat.mod_lt j hc.h0
      by_cases hje : j / esz = o / esz
      · rw [if_pos hje, r2 _ (by omega)]
        rw [hje] at hdj
        by_cases hin : o ≤ j ∧ j < o + i.size
        · rw [if_pos (by omega), if_pos hin, show 0 + (j % esz - o % esz) = j - o by omega]
        · rw [if_neg (by omega), if_neg hin]
          unfold cellAt
          rw [hje]
      · rw [if_neg hje, if_neg]
        rintro ⟨s1, s2⟩
        apply hje
        have : j = o / esz * esz + (o % esz + (j - o)) := by omega
        rw [this]
        exact div_of (by omega)
  have hcs : (Value.agg ⟨rowL g i.size⟩).cells.toList = rowL g i.size := rfl
  have hlen : (rowL g i.size).length = i.size := rowL_len _ _
  obtain ⟨A', c', g1, g2, g3, g4, g5, g6⟩ := run_storeCells (P := P) (o := o) hb (rowL g i.size) 0 A c hc.get (by rw [hlen, hc.size]; omega) (by
    intro v hv
    unfold rowL at hv
    obtain ⟨p, _, rfl⟩ := List.mem_map.1 hv
    exact up_one _)
  have hrun : runA P (Instr.storeAt s (ev t x) (ev t y)) A = some ((), A') := by
    rw [← e1, ← e2]
    show runA P (Instr.storeAt s (.pointer (some ⟨b, o, none⟩)) (.agg ⟨rowL g i.size⟩)) A = _
    rw [run_storeAt hi (by show (rowL g i.size).toArray.size = _; simp [hlen])]
    exact g1
  rw [opA_store hk hrun]
  refine ⟨u0, _, rfl, hM.put hb g2 ?_ g3, hk'⟩
  rw [g4]
  refine .blk hc.h0 hc.h1 hc.h2 (by rw [g5]; exact hc.size) fun j hj => ?_
  rw [g6 j, hcell j hj, hlen]
  by_cases hin : o ≤ j ∧ j < o + i.size
  · rw [if_pos (by omega), if_pos hin, rowL_get, if_pos (by omega), Nat.add_zero]
  · rw [if_neg (by omega), if_neg hin]
    exact hc.cell j hj
end
end
end Go.Proofs.YtnneooidkbhbeaaGreatDoor.Fast
