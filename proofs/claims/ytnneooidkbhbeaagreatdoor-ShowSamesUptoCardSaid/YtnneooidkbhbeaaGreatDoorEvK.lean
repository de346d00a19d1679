/- A fast evaluator, part K: append; parts of strings. Of no program. -/
import Derived.Test.YtnneooidkbhbeaaGreatDoorEvJ
set_option linter.unusedVariables false
set_option linter.unusedSimpArgs false
namespace Go.Proofs.YtnneooidkbhbeaaGreatDoor.Fast
open Go Go.RowKit Go.Proofs.YtnneooidkbhbeaaGreatDoor.Sim
noncomputable section
section
variable {P : Program} {B : Nat} {w0 : Base} {n : Nat} {gl : Nat → Bool} {dst : Option Tmp} {ty : TypeId} {pos : String} {after : Array Edge} {guard : Option (Nat × Bool)}
/-- so many cells of rows, from row i on -/
def cellsL (rows : Rows) (esz o m : Nat) : List Value := (List.range m).map fun p => (cellAt rows esz (o + p)).up
theorem cellsL_len (rows : Rows) (esz o m : Nat) : (cellsL rows esz o m).length = m := by simp [cellsL]
theorem cellsL_get (rows : Rows) (esz o m p : Nat) : (cellsL rows esz o m)[p]? = if p < m then some (cellAt rows esz (o + p)).up else none := by
  unfold cellsL
  rw [List.getElem?_map]
  by_cases h : p < m
  · rw [List.getElem?_range h, if_pos h]; rfl
  · rw [List.getElem?_eq_none (by simp; omega), if_neg h]; rfl
theorem cellsL_one (rows : Rows) (esz o m : Nat) : (cellsL rows esz o m).all oneB = true := by
  rw [List.all_eq_true]
  intro v hv
  unfold cellsL at hv
  obtain ⟨p, _, rfl⟩ := List.mem_map.1 hv
  exact up_one _
theorem Blk.cellsL {A : AW} {b : Nat} {rows : Rows} {m esz : Nat} {e : TypeId} {fam ro : Bool} {c : Array Value} (h : Blk A b rows m esz e fam ro c) {o k : Nat} (hm : o + k ≤ m * esz) : cellsA A b o k = some (Fast.cellsL rows esz o k) :=
  h.cells hm (cellsL_len ..) fun p hp => by rw [cellsL_get, if_pos hp]
/-- rows that were copied -/
theorem copied {rows rows2 r : Rows} {esz i2 k m : Nat} (h0 : 0 < esz) (hk : k + m ≤ 512) (hr : ∀ p, p < 512 → Lw.get p r = if k ≤ p ∧ p < k + m then Lw.get (i2 + (p - k)) rows2 else Lw.get p rows) {j : Nat} (hj : j < (k + m) * esz) :
    cellAt r esz j = if j < k * esz then cellAt rows esz j else cellAt rows2 esz (i2 * esz + (j - k * esz)) := by
  have hd := div_lt_of hj
  have hm := Nat.mod_lt j h0
  have hdm : j / esz * esz + j % esz = j := by rw [Nat.mul_comm]; exact Nat.div_add_mod j esz
  unfold cellAt
  rw [hr _ (by omega)]
  by_cases hq : j < k * esz
  · have : j / esz < k := Nat.div_lt_of_lt_mul (by rw [Nat.mul_comm]; exact hq)
    rw [if_neg (by omega), if_pos hq]
  · have hkd : k ≤ j / esz := (Nat.le_div_iff_mul_le h0).2 (by omega)
    rw [if_pos ⟨hkd, hd⟩, if_neg hq]
    have e : i2 * esz + (j - k * esz) = (i2 + (j / esz - k)) * esz + j % esz := by
      rw [Nat.add_mul, Nat.sub_mul]
      have := Nat.mul_le_mul_right esz hkd
      omega
    rw [e, div_of hm, mod_of hm]
theorem copied_rest {rows rows2 r : Rows} {esz i2 k m N : Nat} (h0 : 0 < esz) (hN : N ≤ 512) (hr : ∀ p, p < 512 → Lw.get p r = if k ≤ p ∧ p < k + m then Lw.get (i2 + (p - k)) rows2 else Lw.get p rows) {j : Nat} (hj : ¬ j < (k + m) * esz) (hjN : j < N * esz) : cellAt r esz j = cellAt rows esz j := by
  have hd := div_lt_of hjN
  have hkd : k + m ≤ j / esz := (Nat.le_div_iff_mul_le h0).2 (by omega)
  unfold cellAt
  rw [hr _ (by omega), if_neg (by omega)]
theorem growF_true {e : TypeId} {esz : Nat} {rows : Rows} {m : Nat} {F : FM} {k : SV → FM → R} {A : AW} {l : List Value} (hM : MR F A) (h0 : 0 < esz) (h1 : esz ≤ 64) (hl : l.length = m * esz) (hc : ∀ j, j < m * esz → l[j]? = some (cellAt rows esz j).up) (h : growF e esz rows m F k = true) :
    ∃ v A', growA A e l m = some (v, A') ∧ Post k v A' := by
  obtain ⟨h2, h3⟩ := ifK_true h
  obtain ⟨h4, h5⟩ := newF_true h3
  refine ⟨_, _, by unfold growA; rw [hM.room h4]; rfl, _, _, ?_, hM.add h4 (.blk h0 h1 (Nat.le_of_ble_eq_true h2) (by simpa using hl) (fun j hj => by rw [List.getElem?_toArray]; exact hc j hj)), h5⟩
  rw [hM.next]
  rfl
theorem keepS_true {s : SV} {F : FM} {k : SV → FM → R} (h : keepS s F k = true) : ∃ a m c, s.up = .slice a m c ∧ Nat.ble m c = true ∧ k s F = true := by
  rcases slcK_true h with ⟨m, c, rfl, h2⟩ | ⟨b, o, m, c, rfl, h2⟩
  · obtain ⟨h3, h4⟩ := ifK_true h2
    exact ⟨_, _, _, rfl, h3, h4⟩
  · obtain ⟨h3, h4⟩ := ifK_true h2
    exact ⟨_, _, _, rfl, h3, h4⟩
theorem slc3_true {x : SV} {k0 : Nat → Nat → R} {k : Nat → Nat → Nat → Nat → R} {kc : Nat → Nat → Nat → R} (h : slc3 x k0 k kc = true) : (∃ n c, x = .val (.nilS n c) ∧ k0 n c = true) ∨ (∃ b o n c, x = .val (.slc b o n c) ∧ k b o n c = true) ∨ ∃ b o n c, x = .val (.val (.slice (some ⟨b, o, some 0⟩) n c)) ∧ kc b o n = true := by
  obtain ⟨v, rfl, h⟩ := valK_true h
  cases v with
  | nilS n c => exact .inl ⟨_, _, rfl, h⟩
  | slc b o n c => exact .inr (.inl ⟨_, _, _, _, rfl, h⟩)
  | val v =>
    have h : clpV v kc = true := h
    unfold clpV at h
    split at h
    · exact .inr (.inr ⟨_, _, _, _, rfl, h⟩)
    · exact not_bad h
  | _ => exact not_bad h
theorem rClip_ok {s e : TypeId} {x hi mx : Operand} {a : Acc} {h' m' : Bo} {it : TypeInfo} (hu : P.underlying s = some (.slice e)) (hi' : P.info? e = some it) (ha : AccOk n x a) (hh : boOf gl n (some hi) = some h') (hm : boOf gl n (some mx) = some m') (hk : okOp ⟨dst, .slice s x none (some hi) (some mx), ty, pos, after, guard⟩ = true) :
    LOk P B w0 n ⟨dst, .slice s x none (some hi) (some mx), ty, pos, after, guard⟩ (rClip a h' m') := by
  intro rec L F k t A hR h1 h2 hM h
  have fin : ∀ {v : Value}, clipA P s (ev t x) (ev t hi) (ev t mx) A = some v → Post k v A → (match opA P (ev t) ⟨dst, .slice s x none (some hi) (some mx), ty, pos, after, guard⟩ A with
      | some (.val v, A') => Post k v A'
      | some (.skip, A') => Post k undef A'
      | some (.enter f args, A') => CallS P B w0 f args A' (Post k)
      | some (.round b tmps a c, A') => RoundW P B w0 b tmps a c A' (Post k)
      | none => NextK (ev t) ⟨dst, .slice s x none (some hi) (some mx), ty, pos, after, guard⟩ A (Post k)) := by
    intro v hc hp
    have hop : opA P (ev t) ⟨dst, .slice s x none (some hi) (some mx), ty, pos, after, guard⟩ A = some (.val v, A) := by
      unfold opA
      rw [hk, cond_true]
      dsimp only
      rw [hc]
    rw [hop]
    exact hp
  rcases slcK_true h with ⟨m, c, h3, h4⟩ | ⟨b, o, m, c, h3, h4⟩
  · have e1 : ev t x = .slice none m c := (ha L t h1 h2).symm.trans (by rw [h3]; rfl)
    obtain ⟨i, g1, g2⟩ := boOf_ok hh h1 h2 h4
    obtain ⟨j, g3, g4⟩ := boOf_ok hm h1 h2 g2
    obtain ⟨g5, g6⟩ := ifK_true g4
    have g1' : natOf (some (ev t hi)) 0 = some i := g1
    have g3' : natOf (some (ev t mx)) 0 = some j := g3
    refine fin (v := .slice none m m) ?_ ⟨_, F, rfl, hM, g6⟩
    unfold clipA
    rw [hu, e1]
    dsimp only
    rw [hi', g1', g3']
    dsimp only
    rw [g5]
    rfl
  · have e1 : ev t x = .slice (some ⟨b, o, none⟩) m c := (ha L t h1 h2).symm.trans (by rw [h3]; rfl)
    obtain ⟨i, g1, g2⟩ := boOf_ok hh h1 h2 h4
    obtain ⟨j, g3, g4⟩ := boOf_ok hm h1 h2 g2
    obtain ⟨g5, g6⟩ := ifK_true g4
    have g1' : natOf (some (ev t hi)) 0 = some i := g1
    have g3' : natOf (some (ev t mx)) 0 = some j := g3
    obtain ⟨hb, rows, m2, esz, e', fam, ro, g7, g8⟩ := blkK_true g6
    obtain ⟨cc, hc⟩ := hM.at hb g7
    have key : ∀ v, (bif fam then (bif Nat.blt 0 m then some (Value.slice (some ⟨b, o, some 0⟩) m m) else none) else some (.slice (some ⟨b, o, none⟩) m m)) = some v → clipA P s (ev t x) (ev t hi) (ev t mx) A = some v := by
      intro v hv
      unfold clipA
      rw [hu, e1]
      dsimp only
      rw [hi', g1', g3']
      dsimp only
      rw [g5, cond_true, hc.get]
      exact hv
    cases fam with
    | true =>
      obtain ⟨g9, g10⟩ := ifK_true (show ifK (Nat.blt 0 m) _ bad = true from g8)
      exact fin (key _ (by rw [g9]; rfl)) ⟨_, F, rfl, hM, g10⟩
    | false =>
      have g9 : k (.val (.slc b o m m)) F = true := g8
      exact fin (key _ rfl) ⟨_, F, rfl, hM, g9⟩
/-- .. rows behind what is there -/
theorem appT_ok {e : TypeId} {x : Operand} {a : Acc} {it : TypeInfo} {z : Value} (hzs : z.cells.size = it.size) (hpos : 0 < it.size) (h64 : it.size ≤ 64)
    (ha : AccOk n x a) {L : Sl} {F : FM} {k : SV → FM → R} {t : Array Value} {A : AW} (h1 : SlR L t) (h2 : n ≤ t.size) (hM : MR F A) {q i2 o2 n2 : Nat} {rows2 : Rows}
    (c2h2 : n2 ≤ 512) (g5' : i2 + q ≤ n2) (ho2 : i2 * it.size = o2) {X : Option (Value × AW)} {G : Prop}
    (hap : ∀ {sb m c}, ev t x = .slice sb m c → (Nat.beq z.cells.size it.size && Nat.blt 0 it.size && Nat.ble ((m + q) * it.bytes) 1099511627776 && Nat.ble (m + q) 1099511627776) = true → X = appendB e it (.slice sb m c) q (cellsL rows2 it.size o2 (q * it.size)) A)
    (goal : ∀ {v A'}, X = some (v, A') → Post k v A' → G) (g6 : appT e it.size it.bytes q i2 rows2 (a L) F k = true) : G := by
  rcases slc3_true g6 with ⟨m, c, h5, h6⟩ | ⟨b, o, m, c, h5, h6⟩ | ⟨b, o, m, c, h5, h6⟩
  · -- onto nothing
    have e1 : ev t x = .slice none m c := (ha L t h1 h2).symm.trans (by rw [h5]; rfl)
    obtain ⟨h7, h8⟩ := ifK_true h6
    rw [Bool.and_eq_true, Bool.and_eq_true, Bool.and_eq_true] at h7
    obtain ⟨⟨⟨r1, r2⟩, r3⟩, r4⟩ := h7
    have r1' := beq_eq r1
    have r3' : q * it.bytes ≤ 1099511627776 := Nat.le_of_ble_eq_true r3
    have r4' : q ≤ 512 := Nat.le_of_ble_eq_true r4
    subst r1'
    obtain ⟨r, s1, s2⟩ := copyR_true q i2 0 rows2 rows0 _ (by omega) (by omega) h8
    obtain ⟨v, A', s3, s4⟩ := growF_true (l := cellsL rows2 it.size o2 (q * it.size)) hM hpos h64 (cellsL_len ..) (fun j hj => by
      rw [cellsL_get, if_pos hj, copied (k := 0) hpos (by omega) s2 (by rw [Nat.zero_add]; exact hj), if_neg (by omega), ho2, Nat.zero_mul, Nat.sub_zero]) s1
    refine goal ?_ s4
    have hcond : (Nat.beq z.cells.size it.size && Nat.blt 0 it.size && Nat.ble ((0 + q) * it.bytes) 1099511627776 && Nat.ble (0 + q) 1099511627776) = true := by
      rw [Bool.and_eq_true, Bool.and_eq_true, Bool.and_eq_true, Nat.zero_add]
      exact ⟨⟨⟨Tr.beq_iff.2 hzs, Nat.ble_eq_true_of_le hpos⟩, r3⟩, Nat.ble_eq_true_of_le (by omega)⟩
    rw [hap e1 hcond]
    show (bif Nat.beq 0 0 && Nat.beq c 0 then growA A e _ q else none) = _
    rw [r2]
    exact s3
  · have e1 : ev t x = .slice (some ⟨b, o, none⟩) m c := (ha L t h1 h2).symm.trans (by rw [h5]; rfl)
    obtain ⟨hb1, rows, n1, esz1, e1t, fam, ro, h7, h8⟩ := blkK_true h6
    obtain ⟨cc, hc⟩ := hM.at hb1 h7
    obtain ⟨h9, h10⟩ := ifK_true h8
    rw [Bool.and_eq_true, Bool.and_eq_true] at h9
    obtain ⟨⟨r0, r1⟩, r2⟩ := h9
    have hro : ro = false := by cases ro <;> first | rfl | cases r0
    subst hro
    have r1' := beq_eq r1
    have r2' := (beq_eq r2).symm
    subst r1' r2'
    obtain ⟨h11, h12⟩ := ifK_true (show ifK (Nat.ble (Nat.mul (Nat.add m q) it.bytes) big && Nat.ble (Nat.add m q) 512) _ bad = true from h10)
    rw [Bool.and_eq_true] at h11
    have r4' : m + q ≤ 512 := Nat.le_of_ble_eq_true h11.2
    have hcond : (Nat.beq z.cells.size it.size && Nat.blt 0 it.size && Nat.ble ((m + q) * it.bytes) 1099511627776 && Nat.ble (m + q) 1099511627776) = true := by
      rw [Bool.and_eq_true, Bool.and_eq_true, Bool.and_eq_true]
      exact ⟨⟨⟨Tr.beq_iff.2 hzs, Nat.ble_eq_true_of_le hpos⟩, h11.1⟩, Nat.ble_eq_true_of_le (by omega)⟩
    have hB : X = appendB e it (.slice (some ⟨b, o, none⟩) m c) q (cellsL rows2 it.size o2 (q * it.size)) A := by
      exact hap e1 hcond
    have hBB : ∀ (Y : Option (Value × AW)), (bif Nat.ble (m + q) c then
        bif Nat.beq o 0 && Nat.ble ((m + q) * it.size) cc.size then
          some (Value.slice (some ⟨b, 0, none⟩) (m + q) c, A.put b (some ⟨.cells (cc.toList.take (m * it.size) ++ cellsL rows2 it.size o2 (q * it.size) ++ cc.toList.drop (m * it.size + (cellsL rows2 it.size o2 (q * it.size)).length)).toArray e (0, 0), fam, false⟩))
        else none
      else match cellsA A b o (m * it.size) with
        | some olds => bif fam then (bif Nat.beq o 0 then growA (A.put b none) e (olds ++ cellsL rows2 it.size o2 (q * it.size)) (m + q) else none) else growA A e (olds ++ cellsL rows2 it.size o2 (q * it.size)) (m + q)
        | none => none) = Y → X = Y := by
      intro Y hY
      rw [hB, ← hY]
      unfold appendB
      simp only [hc.get, Nat.beq_refl, cond_true]
      rfl
    have hc2' := hc.h2
    cases hfit : Nat.ble (Nat.add m q) c with
    | true =>
      rw [hfit] at h12
      obtain ⟨s1, s2⟩ := ifK_true (show ifK (Nat.beq o 0 && Nat.ble (Nat.add m q) n1) _ bad = true from h12)
      rw [Bool.and_eq_true] at s1
      have s1' : m + q ≤ n1 := Nat.le_of_ble_eq_true s1.2
      obtain ⟨r, s3, s4⟩ := copyR_true _ _ _ _ _ _ (by omega) (by omega) s2
      have s5 := putF_true hb1 s3
      have hmq : (m + q) * it.size ≤ n1 * it.size := Nat.mul_le_mul_right _ s1'
      rw [Nat.add_mul] at hmq
      have hlt : cc.toList.length = n1 * it.size := by rw [Array.length_toList]; exact hc.size
      refine goal (hBB _ ?_) ⟨.val (.slc b 0 (m + q) c), _, rfl, hM.putA hb1 (.blk (c := (cc.toList.take (m * it.size) ++ cellsL rows2 it.size o2 (q * it.size) ++ cc.toList.drop (m * it.size + (cellsL rows2 it.size o2 (q * it.size)).length)).toArray) (rows := r) (n := n1) (esz := it.size) (e := e) (fam := fam) (ro := false) hpos h64 hc2' ?_ ?_), s5⟩
      · rw [show Nat.ble (m + q) c = true from hfit, cond_true]
        have : (Nat.beq o 0 && Nat.ble ((m + q) * it.size) cc.size) = true := by
          rw [Bool.and_eq_true, hc.size]
          exact ⟨s1.1, Nat.ble_eq_true_of_le (Nat.mul_le_mul_right _ s1')⟩
        rw [this, cond_true]
        rfl
      · simp only [List.size_toArray, List.length_append, List.length_take, List.length_drop, cellsL_len, hlt]
        omega
      · intro j hj
        rw [List.getElem?_toArray]
        by_cases j1 : j < m * it.size
        · rw [List.getElem?_append_left (by simp only [List.length_append, List.length_take, cellsL_len, hlt]; omega), List.getElem?_append_left (by simp only [List.length_take, hlt]; omega), List.getElem?_take_of_lt j1, Array.getElem?_toList, hc.cell j hj,
            copied hpos r4' s4 (by rw [Nat.add_mul]; omega), if_pos j1]
        · by_cases j2 : j < (m + q) * it.size
          · have j2' := j2
            rw [Nat.add_mul] at j2'
            rw [List.getElem?_append_left (by simp only [List.length_append, List.length_take, cellsL_len, hlt]; omega), List.getElem?_append_right (by simp only [List.length_take, hlt]; omega), List.length_take, hlt, Nat.min_eq_left (by omega), cellsL_get, if_pos (by omega),
              copied hpos r4' s4 j2, if_neg j1, ho2]
          · have j2' := j2
            rw [Nat.add_mul] at j2'
            rw [List.getElem?_append_right (by simp only [List.length_append, List.length_take, cellsL_len, hlt]; omega)]
            simp only [List.length_append, List.length_take, cellsL_len, hlt]
            rw [Nat.min_eq_left (by omega), List.getElem?_drop, Array.getElem?_toList, show m * it.size + q * it.size + (j - (m * it.size + q * it.size)) = j by omega, hc.cell j hj, copied_rest hpos hc2' s4 j2 hj]
    | false =>
      rw [hfit] at h12
      have h13 : ifK (Nat.beq o 0 && Nat.ble m n1) (ifK fam (copyR q i2 m rows2 rows fun rows => putF b .no F fun F => growF e it.size rows (m + q) F k) (copyR q i2 m rows2 rows fun rows => growF e it.size rows (m + q) F k))
          (ifK (Bool.not fam && aligned o it.size) (num (Nat.div o it.size) fun i => ifK (Nat.ble (Nat.add i m) n1) (copyR m i 0 rows rows0 fun rows => copyR q i2 m rows2 rows fun rows => growF e it.size rows (m + q) F k) bad) bad) = true := h12
      cases hz0 : (Nat.beq o 0 && Nat.ble m n1) with
      | true =>
        rw [hz0] at h13
        rw [Bool.and_eq_true] at hz0
        have ho := beq_eq hz0.1
        have hmn : m ≤ n1 := Nat.le_of_ble_eq_true hz0.2
        subst ho
        have hmn' := Nat.mul_le_mul_right it.size hmn
        have holds : cellsA A b 0 (m * it.size) = some (cellsL rows it.size 0 (m * it.size)) := hc.cellsL (by omega)
        have grown : ∀ {r : Rows} {F2 : FM} {A2 : AW}, MR F2 A2 → (∀ p, p < 512 → Lw.get p r = if m ≤ p ∧ p < m + q then Lw.get (i2 + (p - m)) rows2 else Lw.get p rows) → growF e it.size r (m + q) F2 k = true → ∃ v A', growA A2 e (cellsL rows it.size 0 (m * it.size) ++ cellsL rows2 it.size o2 (q * it.size)) (m + q) = some (v, A') ∧ Post k v A' := by
          intro r F2 A2 hM2 hr hg
          refine growF_true hM2 hpos h64 (by rw [List.length_append, cellsL_len, cellsL_len, Nat.add_mul]) (fun j hj => ?_) hg
          rw [copied hpos r4' hr hj]
          have hj' := hj
          rw [Nat.add_mul] at hj'
          by_cases j1 : j < m * it.size
          · rw [List.getElem?_append_left (by rw [cellsL_len]; exact j1), cellsL_get, if_pos j1, if_pos j1, Nat.zero_add]
          · rw [List.getElem?_append_right (by rw [cellsL_len]; omega), cellsL_len, cellsL_get, if_pos (by omega), if_neg j1, ho2]
        cases fam with
        | true =>
          obtain ⟨r, s3, s4⟩ := copyR_true _ _ _ _ _ _ (by omega) (by omega) (show copyR q i2 m rows2 rows _ = true from h13)
          have s5 := putF_true hb1 s3
          obtain ⟨v, A', s6, s7⟩ := grown (hM.putA hb1 (.no none)) s4 s5
          refine goal (hBB _ ?_) s7
          rw [show Nat.ble (m + q) c = false from hfit, cond_false, holds]
          exact s6
        | false =>
          obtain ⟨r, s3, s4⟩ := copyR_true _ _ _ _ _ _ (by omega) (by omega) (show copyR q i2 m rows2 rows _ = true from h13)
          obtain ⟨v, A', s6, s7⟩ := grown hM s4 s3
          refine goal (hBB _ ?_) s7
          rw [show Nat.ble (m + q) c = false from hfit, cond_false, holds]
          exact s6
      | false =>
        rw [hz0] at h13
        obtain ⟨h14, h15⟩ := ifK_true (show ifK (Bool.not fam && aligned o it.size) _ bad = true from h13)
        rw [Bool.and_eq_true] at h14
        have hfam : fam = false := by cases fam <;> first | rfl | cases h14.1
        subst hfam
        have hal : o % it.size = 0 := beq_eq h14.2
        obtain ⟨h16, h17⟩ := ifK_true (show ifK (Nat.ble (Nat.add (Nat.div o it.size) m) n1) _ bad = true from h15)
        have h16' : o / it.size + m ≤ n1 := Nat.le_of_ble_eq_true h16
        have hoo : o / it.size * it.size = o := by
          have := Nat.div_add_mod o it.size
          rw [Nat.mul_comm] at this
          omega
        have hbd := Nat.mul_le_mul_right it.size h16'
        rw [Nat.add_mul, hoo] at hbd
        obtain ⟨r1, s1, s2⟩ := copyR_true m (Nat.div o it.size) 0 rows rows0 _ (Nat.le_trans h16' hc2') (by omega) h17
        obtain ⟨r, s3, s4⟩ := copyR_true _ _ _ _ _ _ (by omega) (by omega) s1
        have holds : cellsA A b o (m * it.size) = some (cellsL rows it.size o (m * it.size)) := hc.cellsL hbd
        obtain ⟨v, A', s6, s7⟩ := growF_true (l := cellsL rows it.size o (m * it.size) ++ cellsL rows2 it.size o2 (q * it.size)) hM hpos h64 (by rw [List.length_append, cellsL_len, cellsL_len, ← Nat.add_mul]) (fun j hj => by
          rw [copied hpos r4' s4 hj]
          have hj' : j < (m + q) * it.size := hj
          rw [Nat.add_mul] at hj'
          by_cases j1 : j < m * it.size
          · rw [List.getElem?_append_left (by rw [cellsL_len]; exact j1), cellsL_get, if_pos j1, if_pos j1, copied (k := 0) hpos (by omega) s2 (by rw [Nat.zero_add]; exact j1), if_neg (by omega), (show Nat.div o it.size * it.size = o from hoo), Nat.zero_mul, Nat.sub_zero]
          · rw [List.getElem?_append_right (by rw [cellsL_len]; omega), cellsL_len, cellsL_get, if_pos (by omega), if_neg j1, ho2]) s3
        refine goal (hBB _ ?_) s7
        rw [show Nat.ble (m + q) c = false from hfit, cond_false, holds]
        exact s6
  · -- onto a slice that is cut to its length
    have e1 : ev t x = .slice (some ⟨b, o, some 0⟩) m c := (ha L t h1 h2).symm.trans (by rw [h5]; rfl)
    obtain ⟨hb1, rows, n1, esz1, e1t, fam, ro, h7, h8⟩ := blkK_true h6
    obtain ⟨cc, hc⟩ := hM.at hb1 h7
    obtain ⟨h9, h10⟩ := ifK_true h8
    rw [Bool.and_eq_true] at h9
    obtain rfl := beq_eq h9.1
    obtain ⟨h11, h12⟩ := ifK_true (show ifK (Nat.ble (Nat.mul (Nat.add m q) it.bytes) big && Nat.ble (Nat.add m q) 512) _ bad = true from h10)
    rw [Bool.and_eq_true] at h11
    have r4' : m + q ≤ 512 := Nat.le_of_ble_eq_true h11.2
    have hcond : (Nat.beq z.cells.size it.size && Nat.blt 0 it.size && Nat.ble ((m + q) * it.bytes) 1099511627776 && Nat.ble (m + q) 1099511627776) = true := by
      rw [Bool.and_eq_true, Bool.and_eq_true, Bool.and_eq_true]
      exact ⟨⟨⟨Tr.beq_iff.2 hzs, Nat.ble_eq_true_of_le hpos⟩, h11.1⟩, Nat.ble_eq_true_of_le (by omega)⟩
    have hal : o % it.size = 0 := beq_eq h9.2
    obtain ⟨h16, h17⟩ := ifK_true (show ifK (Nat.ble (Nat.add (Nat.div o it.size) m) n1) _ bad = true from h12)
    have h16' : o / it.size + m ≤ n1 := Nat.le_of_ble_eq_true h16
    have hc2' := hc.h2
    have hoo : o / it.size * it.size = o := by
      have := Nat.div_add_mod o it.size
      rw [Nat.mul_comm] at this
      omega
    have hbd := Nat.mul_le_mul_right it.size h16'
    rw [Nat.add_mul, hoo] at hbd
    obtain ⟨r1, s1, s2⟩ := copyR_true m (Nat.div o it.size) 0 rows rows0 _ (Nat.le_trans h16' hc2') (by omega) h17
    obtain ⟨r, s3, s4⟩ := copyR_true _ _ _ _ _ _ (by omega) (by omega) s1
    have holds : cellsA A b o (m * it.size) = some (cellsL rows it.size o (m * it.size)) := hc.cellsL hbd
    obtain ⟨v, A', s6, s7⟩ := growF_true (l := cellsL rows it.size o (m * it.size) ++ cellsL rows2 it.size o2 (q * it.size)) hM hpos h64 (by rw [List.length_append, cellsL_len, cellsL_len, ← Nat.add_mul]; rfl) (fun j hj => by
      rw [copied hpos r4' s4 hj]
      have hj' : j < (m + q) * it.size := hj
      rw [Nat.add_mul] at hj'
      by_cases j1 : j < m * it.size
      · rw [List.getElem?_append_left (by rw [cellsL_len]; exact j1), cellsL_get, if_pos j1, if_pos j1, copied (k := 0) hpos (by omega) s2 (by rw [Nat.zero_add]; exact j1), if_neg (by omega), (show Nat.div o it.size * it.size = o from hoo), Nat.zero_mul, Nat.sub_zero]
      · rw [List.getElem?_append_right (by rw [cellsL_len]; omega), cellsL_len, cellsL_get, if_pos (by omega), if_neg j1, ho2]) s3
    refine goal ?_ s7
    rw [hap e1 hcond]
    show (match cellsA A b o (m * it.size) with | some olds => growA A e (olds ++ cellsL rows2 it.size o2 (q * it.size)) (m + q) | none => none) = _
    rw [holds]
    exact s6
theorem rAppend_ok {s e : TypeId} {x y : Operand} {a a' : Acc} {args : Array Operand} {ts : Array TypeId} {it : TypeInfo} {z : Value} (hargs : args.toList = [x, y]) (hts : ts.toList = [s, s]) (hu : P.underlying s = some (.slice e)) (hi : P.info? e = some it) (hz : it.zero = some z) (hzs : z.cells.size = it.size) (hpos : 0 < it.size) (h64 : it.size ≤ 64)
    (ha : AccOk n x a) (hb : AccOk n y a') (hk : okOp ⟨dst, .call ⟨.builtin .append, args, ts⟩, ty, pos, after, guard⟩ = true) : LOk P B w0 n ⟨dst, .call ⟨.builtin .append, args, ts⟩, ty, pos, after, guard⟩ (rAppend e it.size it.bytes a a') := by
  intro rec L F k t A hR h1 h2 hM h
  have hopA : opA P (ev t) ⟨dst, .call ⟨.builtin .append, args, ts⟩, ty, pos, after, guard⟩ A = valA (appendA P ts (ev t x) (ev t y) A) := by
    unfold opA
    rw [hk, cond_true]
    dsimp only
    rw [hargs]
  have goal : ∀ {v A'}, appendA P ts (ev t x) (ev t y) A = some (v, A') → Post k v A' → (match opA P (ev t) ⟨dst, .call ⟨.builtin .append, args, ts⟩, ty, pos, after, guard⟩ A with
      | some (.val v, A') => Post k v A'
      | some (.skip, A') => Post k undef A'
      | some (.enter f args, A') => CallS P B w0 f args A' (Post k)
      | some (.round b tmps a c, A') => RoundW P B w0 b tmps a c A' (Post k)
      | none => NextK (ev t) ⟨dst, .call ⟨.builtin .append, args, ts⟩, ty, pos, after, guard⟩ A (Post k)) := by
    intro v A' he hp
    rw [hopA, he]
    exact hp
  have happ : ∀ {sb m c xb q d}, ev t x = .slice sb m c → ev t y = .slice xb q d → appendA P ts (ev t x) (ev t y) A = (bif Nat.beq q 0 then (bif Nat.ble m c then some (Value.slice sb m c, A) else none) else
          bif Nat.beq z.cells.size it.size && Nat.blt 0 it.size && Nat.ble ((m + q) * it.bytes) 1099511627776 && Nat.ble (m + q) 1099511627776 then
            match xb with
            | some ⟨b, o, none⟩ => match cellsA A b o (q * it.size) with
              | some news => bif news.all oneB then appendB e it (.slice sb m c) q news A else none
              | none => none
            | _ => none
          else none) := by
    intro sb m c xb q d e1 e2
    unfold appendA
    rw [hts]
    dsimp only
    rw [Nat.beq_refl, cond_true, e1, e2, hu]
    dsimp only
    rw [hi]
    dsimp only
    rw [hz]
    rfl
  have keep : ∀ {xb q d}, ev t y = .slice xb q d → Nat.beq q 0 = true → keepS (a L) F k = true → (match opA P (ev t) ⟨dst, .call ⟨.builtin .append, args, ts⟩, ty, pos, after, guard⟩ A with
      | some (.val v, A') => Post k v A'
      | some (.skip, A') => Post k undef A'
      | some (.enter f args, A') => CallS P B w0 f args A' (Post k)
      | some (.round b tmps a c, A') => RoundW P B w0 b tmps a c A' (Post k)
      | none => NextK (ev t) ⟨dst, .call ⟨.builtin .append, args, ts⟩, ty, pos, after, guard⟩ A (Post k)) := by
    intro xb q d e2 hq hks
    obtain ⟨sb, m, c, g1, g2, g3⟩ := keepS_true hks
    have e1 : ev t x = .slice sb m c := (ha L t h1 h2).symm.trans g1
    exact goal (by rw [happ e1 e2, hq, g2]; rfl) ⟨_, F, g1, hM, g3⟩
  rcases slcK_true (show slcK (a' L) _ _ = true from h) with ⟨q, d, h3, h4⟩ | ⟨b2, o2, q, d, h3, h4⟩
  · obtain ⟨h5, h6⟩ := ifK_true h4
    exact keep ((hb L t h1 h2).symm.trans (by rw [h3]; rfl)) h5 h6
  · have e2 : ev t y = .slice (some ⟨b2, o2, none⟩) q d := (hb L t h1 h2).symm.trans (by rw [h3]; rfl)
    cases hq : Nat.beq q 0 with
    | true => rw [hq] at h4; exact keep e2 hq h4
    | false =>
      rw [hq] at h4
      obtain ⟨hb2, rows2, n2, esz2, e2t, fam2, ro2, g1, g2⟩ := blkK_true (show blkK b2 F _ = true from h4)
      obtain ⟨c2, hc2⟩ := hM.at hb2 g1
      obtain ⟨g3, g4⟩ := ifK_true g2
      rw [Bool.and_eq_true] at g3
      have q1 := beq_eq g3.1
      have q2 : o2 % esz2 = 0 := by have : o2 % it.size = 0 := beq_eq g3.2; rw [q1]; exact this
      subst q1
      clear g3
      obtain ⟨g5, g6⟩ := ifK_true g4
      have g5' : o2 / it.size + q ≤ n2 := Nat.le_of_ble_eq_true g5
      have ho2 : o2 / it.size * it.size = o2 := by
        have := Nat.div_add_mod o2 it.size
        rw [Nat.mul_comm] at this
        omega
      have hbound : o2 + q * it.size ≤ n2 * it.size := by
        have := Nat.mul_le_mul_right it.size g5'
        rw [Nat.add_mul, ho2] at this
        exact this
      have hnews := hc2.cellsL hbound
      have hone := cellsL_one rows2 it.size o2 (q * it.size)
      obtain ⟨i2, hi2⟩ : ∃ i2, Nat.div o2 it.size = i2 := ⟨_, rfl⟩
      have hi3 : o2 / it.size = i2 := hi2
      rw [hi2] at g6
      rw [hi3] at g5' ho2
      clear hi2 hi3 g5 g4
      have c2h2 := hc2.h2
      refine appT_ok (e := e) (X := appendA P ts (ev t x) (ev t y) A) hzs hpos h64 ha h1 h2 hM c2h2 g5' ho2 (fun {sb m c} e1 hcond => ?_) goal g6
      rw [happ e1 e2, hq, cond_false, hcond, cond_true]
      dsimp only
      rw [hnews]
      dsimp only
      rw [hone, cond_true]
end
end
end Go.Proofs.YtnneooidkbhbeaaGreatDoor.Fast
