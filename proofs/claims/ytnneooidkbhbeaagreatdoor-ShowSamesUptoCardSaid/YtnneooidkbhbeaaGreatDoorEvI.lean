/- A fast evaluator, part I: literals with parts; functions; slices; what is slow; guards. Of no program. -/
import Derived.Test.YtnneooidkbhbeaaGreatDoorEvH
set_option linter.unusedVariables false
set_option linter.unusedSimpArgs false
namespace Go.Proofs.YtnneooidkbhbeaaGreatDoor.Fast
open Go Go.RowKit Go.Proofs.YtnneooidkbhbeaaGreatDoor.Sim
noncomputable section

/-- parts that are laid over cells -/
theorem foldl_get : ∀ (l : List Value) (j off : Nat) (cs : Array Value) (p : Nat), off + j + l.length ≤ cs.size → ((l.zipIdx j).foldl (fun cs x => cs.setIfInBounds (off + x.2) x.1) cs)[p]? = if off + j ≤ p ∧ p < off + j + l.length then l[p - (off + j)]? else cs[p]?
  | [], j, off, cs, p, _ => by rw [if_neg (by simp only [List.length_nil]; omega)]; rfl
  | v :: l, j, off, cs, p, h => by
    simp only [List.length_cons] at h
    simp only [List.zipIdx_cons, List.foldl_cons]
    rw [foldl_get l (j + 1) off _ p (by rw [Array.size_setIfInBounds]; omega), Array.getElem?_setIfInBounds]
    simp only [List.length_cons]
    by_cases h1 : p = off + j
    · subst h1
      rw [if_neg (by omega), if_pos rfl, if_pos (by omega), if_pos (by omega), Nat.sub_self]
      rfl
    · by_cases h2 : off + (j + 1) ≤ p ∧ p < off + (j + 1) + l.length
      · rw [if_pos h2, if_pos (by omega), show p - (off + j) = p - (off + (j + 1)) + 1 by omega, List.getElem?_cons_succ]
      · rw [if_neg h2, if_neg (fun e => h1 e.symm), if_neg (by omega)]
theorem foldl_size : ∀ (l : List (Value × Nat)) (off : Nat) (cs : Array Value), (l.foldl (fun cs x => cs.setIfInBounds (off + x.2) x.1) cs).size = cs.size
  | [], _, _ => rfl
  | x :: l, off, cs => by rw [List.foldl_cons, foldl_size l, Array.size_setIfInBounds]
theorem fill_cons {place : Nat → Option (Nat × Nat)} {i : Nat} {v : Value} {rest : List (Nat × Value)} {cells : Array Value} {off size : Nat} (hp : place i = some (off, size)) (hv : v.cells.size = size) (hle : off + size ≤ cells.size) :
    ∃ cells2 : Array Value, Instr.fill place cells ((i, v) :: rest) = Instr.fill place cells2 rest ∧ cells2.size = cells.size ∧ ∀ p : Nat, cells2[p]? = if off ≤ p ∧ p < off + size then v.cells[p - off]? else cells[p]? := by
  refine ⟨v.cells.zipIdx.foldl (fun cs (x : Value × Nat) => cs.setIfInBounds (off + x.2) x.1) cells, ?_, ?_, fun p => ?_⟩
  · show (match place i with | none => none | some (off, size) => _) = _
    rw [hp]
    dsimp only
    rw [if_neg]
    rw [hv]
    simp
    omega
  · rw [foldArr_eq, foldl_size]
  · have hl : v.cells.toList.length = size := by rw [Array.length_toList]; exact hv
    rw [foldArr_eq, foldl_get _ 0 off cells p (by omega), hl]
    simp only [Nat.add_zero, Array.getElem?_toList]
/-- cells stand as a row's do -/
structure RowR (N : Nat) (f : Ro) (c : Array Value) : Prop where
  size : c.size = N
  get : ∀ p, p < N → c[p]? = some (Lr.get p f).up
section
variable {P : Program} {B : Nat} {w0 : Base} {n : Nat} {gl : Nat → Bool} {dst : Option Tmp} {ty : TypeId} {pos : String} {after : Array Edge} {guard : Option (Nat × Bool)}
theorem partsB_ok {N : Nat} (hN : N ≤ 64) {place : Nat → Option (Nat × TypeId)} {place' : Nat → Option (Nat × Nat)} (hpl : ∀ i off t, place i = some (off, t) → place' i = some (off, sizeB P t)) : ∀ (l : List (Nat × Operand)) (b : Bd), partsB gl P n N place l = some b → ∀ L t f c k, SlR L t → n ≤ t.size → RowR N f c → b L f k = true →
    ∃ f' c', Instr.fill place' c (l.map fun p => (p.1, ev t p.2)) = some c' ∧ RowR N f' c' ∧ k f' = true
  | [], b, hb, L, t, f, c, k, hL, hn, hr, h => by
    injection hb with hb; subst hb
    exact ⟨f, c, rfl, hr, h⟩
  | (i, x) :: l, b, hb, L, t, f, c, k, hL, hn, hr, h => by
    unfold partsB at hb
    cases hp : place i with
    | none => rw [hp] at hb; cases hb
    | some ot =>
      obtain ⟨off, tt⟩ := ot
      rw [hp] at hb
      cases hr2 : partsB gl P n N place l with
      | none => rw [hr2] at hb; cases hb
      | some r =>
        rw [hr2] at hb
        dsimp only at hb
        cases hq : Nat.ble (off + sizeB P tt) N with
        | false => rw [hq] at hb; cases hb
        | true =>
          rw [hq, cond_true] at hb
          have hle : off + sizeB P tt ≤ N := Nat.le_of_ble_eq_true hq
          unfold segB at hb
          cases ha : accOf gl n x with
          | none => rw [ha] at hb; cases hb
          | some a =>
            rw [ha] at hb
            have hacc := accOf_ok ha L t hL hn
            cases hg : aggB P tt with
            | none => rw [hg] at hb; cases hb
            | some q =>
              rw [hg] at hb
              cases q with
              | true =>
                injection hb with hb; subst hb
                obtain ⟨m, g, h1, h2⟩ := rowK_true (show rowK (a L) _ = true from h)
                obtain ⟨h3, h4⟩ := ifK_true h2
                obtain rfl := beq_eq h3
                obtain ⟨f2, h5, h6⟩ := copyC_true _ _ _ _ _ _ (by omega) (by omega) h4
                rw [h1] at hacc
                have hcs : (ev t x).cells = ⟨rowL g (sizeB P tt)⟩ := by rw [← hacc]; rfl
                obtain ⟨c2, q1, q2, q3⟩ := fill_cons (rest := l.map fun p => (p.1, ev t p.2)) (cells := c) (hpl _ _ _ hp) (v := ev t x) (by rw [hcs]; show (rowL g (sizeB P tt)).toArray.size = _; simp [rowL_len]) (by rw [hr.size]; exact hle)
                have hr' : RowR N f2 c2 := ⟨by rw [q2, hr.size], fun p hp => by
                  rw [q3 p, h6 p (by omega), hcs]
                  by_cases hin : off ≤ p ∧ p < off + sizeB P tt
                  · rw [if_pos hin, if_pos hin]
                    show (rowL g (sizeB P tt)).toArray[p - off]? = _
                    rw [List.getElem?_toArray, rowL_get, if_pos (by omega), Nat.zero_add]
                  · rw [if_neg hin, if_neg hin]; exact hr.get p hp⟩
                obtain ⟨f3, c3, z1, z2, z3⟩ := partsB_ok hN hpl l r hr2 L t f2 c2 k hL hn hr' h5
                exact ⟨f3, c3, q1.trans z1, z2, z3⟩
              | false =>
                dsimp only at hb
                cases hs : Nat.beq (sizeB P tt) 1 with
                | false => rw [hs] at hb; cases hb
                | true =>
                  rw [hs, cond_true] at hb
                  injection hb with hb; subst hb
                  have hs1 := beq_eq hs
                  rw [hs1] at hle
                  obtain ⟨v, h1, h2⟩ := valK_true (show valK (a L) _ = true from h)
                  rw [w64_put (by omega)] at h2
                  rw [h1] at hacc
                  have hcs : (ev t x).cells = #[v.up] := by rw [← hacc]; exact oneB_cells (up_one v)
                  obtain ⟨c2, q1, q2, q3⟩ := fill_cons (rest := l.map fun p => (p.1, ev t p.2)) (cells := c) (hpl _ _ _ hp) (v := ev t x) (by rw [hcs, hs1]; rfl) (by rw [hr.size, hs1]; exact hle)
                  have hr' : RowR N (Lr.set off v f) c2 := ⟨by rw [q2, hr.size], fun p hp => by
                    rw [q3 p, Lr_set _ _ (by omega) (by omega), hcs, hs1]
                    by_cases hin : p = off
                    · subst hin
                      rw [if_pos (by omega), if_pos rfl, Nat.sub_self]
                      rfl
                    · rw [if_neg (by omega), if_neg hin]; exact hr.get p hp⟩
                  obtain ⟨f3, c3, z1, z2, z3⟩ := partsB_ok hN hpl l r hr2 L t _ c2 k hL hn hr' h2
                  exact ⟨f3, c3, q1.trans z1, z2, z3⟩
theorem rBuild_ok {N : Nat} {f0 : Ro} {c0 : Array Value} (hN : N ≤ 64) (h0 : RowR N f0 c0) {place : Nat → Option (Nat × TypeId)} {place' : Nat → Option (Nat × Nat)} (hpl : ∀ i off t, place i = some (off, t) → place' i = some (off, sizeB P t)) {s : TypeId} {ps : Array (Nat × Operand)} {b : Bd} (hb : partsB gl P n N place ps.toList = some b)
    (hbt : ∀ l, P.built s l = Instr.fill place' c0 l) (hk : okOp ⟨dst, .build s ps, ty, pos, after, guard⟩ = true) : QOk P n ⟨dst, .build s ps, ty, pos, after, guard⟩ (rBuild f0 N b) :=
  QOk.pure hk (fun _ => rfl) fun rec L F k t h1 h2 h => by
    obtain ⟨f, c, g1, g2, g3⟩ := partsB_ok hN hpl _ _ hb L t f0 c0 _ h1 h2 h0 h
    refine ⟨_, ?_, g3⟩
    show (match P.built s (partsA (ev t) ps) with | some c => some (Value.agg c) | none => none) = _
    rw [hbt]
    unfold partsA
    rw [g1]
    show some (Value.agg c) = some (Value.agg ⟨rowL f N⟩)
    congr 2
    apply Array.toList_inj.1
    apply List.ext_getElem?
    intro p
    show c.toList[p]? = (rowL f N)[p]?
    rw [Array.getElem?_toList, rowL_get]
    by_cases hp : p < N
    · rw [if_pos hp, g2.get p hp]
    · rw [if_neg hp, Array.getElem?_eq_none (by rw [g2.size]; omega)]
/-- functions with what they captured -/
theorem asOf_ok : ∀ (l : List Operand) (s : As), asOf gl n l = some s → ∀ L t k, SlR L t → n ≤ t.size → s L k = true → k (l.map (ev t)) = true
  | [], s, hs, L, t, k, hL, hn, h => by injection hs with hs; subst hs; exact h
  | x :: l, s, hs, L, t, k, hL, hn, h => by
    unfold asOf at hs
    cases ha : accOf gl n x with
    | none => rw [ha] at hs; cases hs
    | some a =>
      rw [ha] at hs
      cases hr : asOf gl n l with
      | none => rw [hr] at hs; cases hs
      | some r =>
        rw [hr] at hs
        injection hs with hs; subst hs
        obtain ⟨v, h1, h2⟩ := valK_true (show valK (a L) _ = true from h)
        have hacc := accOf_ok ha L t hL hn
        rw [h1] at hacc
        have := asOf_ok l r hr L t _ hL hn h2
        show k (ev t x :: l.map (ev t)) = true
        rw [← hacc]
        exact this
theorem rFunc_ok {g : FuncId} {f c : Array Operand} {fs cs : As} (hf : asOf gl n f.toList = some fs) (hc : asOf gl n c.toList = some cs) (hk : okOp ⟨dst, .makeFunc (.func g) f c, ty, pos, after, guard⟩ = true) : QOk P n ⟨dst, .makeFunc (.func g) f c, ty, pos, after, guard⟩ (rFunc g fs cs) :=
  QOk.pure hk (fun _ => rfl) fun rec L F k t h1 h2 h => by
    have h3 := asOf_ok _ _ hf L t _ h1 h2 h
    have h4 := asOf_ok _ _ hc L t _ h1 h2 h3
    exact ⟨_, rfl, h4⟩
/-- slices of slices -/
theorem boOf_ok {x : Option Operand} {b : Bo} (hb : boOf gl n x = some b) {L : Sl} {t : Array Value} (hL : SlR L t) (hn : n ≤ t.size) {d : Nat} {k : Nat → R} (h : b L d k = true) : ∃ i, natOf (x.map (ev t)) d = some i ∧ k i = true := by
  unfold boOf at hb
  cases x with
  | none => injection hb with hb; subst hb; exact ⟨d, rfl, h⟩
  | some x =>
    dsimp only at hb
    cases ha : accOf gl n x with
    | none => rw [ha] at hb; cases hb
    | some a =>
      rw [ha] at hb
      injection hb with hb; subst hb
      obtain ⟨j, z, h1, h2⟩ := intK_true (show intK (a L) _ = true from h)
      obtain ⟨i, rfl, h3⟩ := natV_true h2
      have hacc := accOf_ok ha L t hL hn
      rw [h1] at hacc
      refine ⟨i, ?_, h3⟩
      show natOf (some (ev t x)) d = some i
      rw [← hacc]
      show (bif decide (0 ≤ Int.ofNat i) then some (Int.ofNat i).toNat else none) = some i
      rw [decide_eq_true (show (0 : Int) ≤ Int.ofNat i from Int.natCast_nonneg i)]
      rfl
theorem rSlice_ok {s e : TypeId} {x : Operand} {lo hi : Option Operand} {a : Acc} {l h' : Bo} {it : TypeInfo} (hu : P.underlying s = some (.slice e)) (hi' : P.info? e = some it) (ha : AccOk n x a) (hl : boOf gl n lo = some l) (hh : boOf gl n hi = some h') (hk : okOp ⟨dst, .slice s x lo hi none, ty, pos, after, guard⟩ = true) : QOk P n ⟨dst, .slice s x lo hi none, ty, pos, after, guard⟩ (rSlice e it.size a l h') :=
  QOk.val fun rec L F k t A h1 h2 hM h => by
    have hcls : ∀ {b m c}, ev t x = .slice b m c → cls (ev t) ⟨dst, .slice s x lo hi none, ty, pos, after, guard⟩ = .mem := by
      intro b m c he
      show (match ev t x with | .slice _ _ _ => Cls.mem | _ => Cls.pure) = _
      rw [he]
    have hop : opM P (ev t) A ⟨dst, .slice s x lo hi none, ty, pos, after, guard⟩ = sliceA P s (ev t x) (lo.map (ev t)) (hi.map (ev t)) A := rfl
    rcases slcK_true h with ⟨m, c, h3, h4⟩ | ⟨b, o, m, c, h3, h4⟩
    · have e1 : ev t x = .slice none m c := (ha L t h1 h2).symm.trans (by rw [h3]; rfl)
      obtain ⟨i, g1, g2⟩ := boOf_ok hl h1 h2 h4
      obtain ⟨j, g3, g4⟩ := boOf_ok hh h1 h2 g2
      obtain ⟨g5, g6⟩ := ifK_true g4
      refine ⟨.slice none (j - i) (c - i), quiet_mem hk (hcls e1) ?_, _, F, rfl, hM, (g6 : k (.val (.nilS (j - i) (c - i))) F = true)⟩
      rw [hop, e1]
      unfold sliceA
      rw [hu]
      dsimp only
      rw [hi', g1, g3]
      dsimp only
      rw [g5]
      rfl
    · have e1 : ev t x = .slice (some ⟨b, o, none⟩) m c := (ha L t h1 h2).symm.trans (by rw [h3]; rfl)
      obtain ⟨i, g1, g2⟩ := boOf_ok hl h1 h2 h4
      obtain ⟨j, g3, g4⟩ := boOf_ok hh h1 h2 g2
      obtain ⟨g5, g6⟩ := ifK_true g4
      obtain ⟨hb, rows, m2, esz, e', fam, ro, g7, g8⟩ := blkK_true g6
      obtain ⟨cc, hc⟩ := hM.at hb g7
      have key : ∀ v, (bif fam then (bif Nat.beq e' e && (Nat.beq i 0 || Nat.blt i c || (Nat.beq o 0 && Nat.beq i c)) then some (Value.slice (some ⟨b, o + i * it.size, none⟩) (j - i) (c - i)) else none)
            else some (.slice (some ⟨b, bif Nat.beq c i then o else o + i * it.size, none⟩) (j - i) (c - i))) = some v → opM P (ev t) A ⟨dst, .slice s x lo hi none, ty, pos, after, guard⟩ = some v := by
        intro v hv
        rw [hop, e1]
        unfold sliceA
        rw [hu]
        dsimp only
        rw [hi', g1, g3]
        dsimp only
        rw [g5, cond_true, hc.get]
        exact hv
      cases fam with
      | true =>
        obtain ⟨g9, g10⟩ := ifK_true (show ifK (Nat.beq e' e && (Nat.beq i 0 || Nat.blt i c || (Nat.beq o 0 && Nat.beq i c))) _ bad = true from g8)
        exact ⟨_, quiet_mem hk (hcls e1) (key _ (by rw [g9]; rfl)), .val (.slc b (o + i * it.size) (j - i) (c - i)), F, rfl, hM, g10⟩
      | false =>
        have g9 : ifK (Nat.beq c i) (k (.val (.slc b o (j - i) (c - i))) F) (k (.val (.slc b (o + i * it.size) (j - i) (c - i))) F) = true := g8
        cases hci : Nat.beq c i with
        | true =>
          rw [hci] at g9
          exact ⟨_, quiet_mem hk (hcls e1) (key (.slice (some ⟨b, o, none⟩) (j - i) (c - i)) (by rw [hci]; rfl)), .val (.slc b o (j - i) (c - i)), F, rfl, hM, g9⟩
        | false =>
          rw [hci] at g9
          exact ⟨_, quiet_mem hk (hcls e1) (key (.slice (some ⟨b, o + i * it.size, none⟩) (j - i) (c - i)) (by rw [hci]; rfl)), .val (.slc b (o + i * it.size) (j - i) (c - i)), F, rfl, hM, g9⟩
/-- a slice's length -/
theorem rLen_ok {s e : TypeId} {x : Operand} {a : Acc} {args : Array Operand} {ts : Array TypeId} (hargs : args.toList = [x]) (hts : ts.toList = [s]) (hu : P.underlying s = some (.slice e)) (ha : AccOk n x a) (hk : okOp ⟨dst, .call ⟨.builtin .len, args, ts⟩, ty, pos, after, guard⟩ = true) : QOk P n ⟨dst, .call ⟨.builtin .len, args, ts⟩, ty, pos, after, guard⟩ (rLen a) :=
  QOk.pureAt hk fun rec L F k t h1 h2 h => by
    have hts0 : ts[0]? = some s := by rw [← Array.getElem?_toList, hts]; rfl
    have key : ∀ {b m c}, ev t x = .slice b m c → opQ P (ev t) ⟨dst, .call ⟨.builtin .len, args, ts⟩, ty, pos, after, guard⟩ = some (.int .i64 m) := by
      intro b m c he
      show (match args.toList with | [x] => _ | _ => none) = _
      rw [hargs]
      dsimp only
      rw [he]
      dsimp only
      rw [hts0]
      dsimp only
      rw [hu]
    rcases slcK_true h with ⟨m, c, h3, h4⟩ | ⟨b, o, m, c, h3, h4⟩
    · have e1 : ev t x = .slice none m c := (ha L t h1 h2).symm.trans (by rw [h3]; rfl)
      exact ⟨.val (.int .i64 (Int.ofNat m)), cls_len hargs (fun b => by rw [e1]; intro e; cases e), key e1, h4⟩
    · have e1 : ev t x = .slice (some ⟨b, o, none⟩) m c := (ha L t h1 h2).symm.trans (by rw [h3]; rfl)
      exact ⟨.val (.int .i64 (Int.ofNat m)), cls_len hargs (fun b => by rw [e1]; intro e; cases e), key e1, h4⟩
/-- whatever else looks at no memory -/
theorem setL_true : ∀ (l : List Value) (i : Nat) (f : Ro) (k : Ro → R), i + l.length ≤ 64 → setL l i f k = true → ∃ f', k f' = true ∧ ∀ p, p < 64 → if i ≤ p ∧ p < i + l.length then l[p - i]? = some (Lr.get p f').up else Lr.get p f' = Lr.get p f
  | [], i, f, k, _, h => ⟨f, h, fun p _ => by rw [if_neg (by simp only [List.length_nil]; omega)]⟩
  | v :: l, i, f, k, hl, h => by
    simp only [List.length_cons] at hl
    obtain ⟨x, hx, h1⟩ := fvP_true (show fvP v _ = true from h)
    rw [w64_put (by omega)] at h1
    obtain ⟨f', h2, h3⟩ := setL_true l (i + 1) _ k (by omega) (show setL l (i + 1) (Lr.set i x f) k = true from h1)
    refine ⟨f', h2, fun p hp => ?_⟩
    have h4 := h3 p hp
    simp only [List.length_cons]
    by_cases hq : i + 1 ≤ p ∧ p < i + 1 + l.length
    · rw [if_pos hq] at h4
      rw [if_pos (by omega), show p - i = p - (i + 1) + 1 by omega, List.getElem?_cons_succ]
      exact h4
    · rw [if_neg hq, Lr_set _ _ (by omega) hp] at h4
      by_cases he : p = i
      · subst he
        rw [if_pos rfl] at h4
        rw [if_pos (by omega), Nat.sub_self, h4, hx]
        rfl
      · rw [if_neg he] at h4
        rw [if_neg (by omega)]
        exact h4
theorem rowL_of {l : List Value} {f : Ro} (hl : l.length ≤ 64) (h : ∀ p, p < 64 → if 0 ≤ p ∧ p < 0 + l.length then l[p - 0]? = some (Lr.get p f).up else True) : rowL f l.length = l := by
  apply List.ext_getElem?
  intro p
  rw [rowL_get]
  by_cases hp : p < l.length
  · have := h p (by omega)
    rw [if_pos (by omega), Nat.sub_zero] at this
    rw [if_pos hp, this]
  · rw [if_neg hp, List.getElem?_eq_none (by omega)]
theorem setL_row {l : List Value} {k : Ro → R} (hl : l.length ≤ 64) (h : setL l 0 row0 k = true) : ∃ f, k f = true ∧ rowL f l.length = l := by
  obtain ⟨f, h1, h2⟩ := setL_true l 0 row0 k (by omega) h
  refine ⟨f, h1, rowL_of hl fun p hp => ?_⟩
  have := h2 p hp
  split
  · rename_i hq; rw [if_pos hq] at this; exact this
  · trivial
theorem tupK_true : ∀ (l : List Value) (k : SV → R), tupK l k = true → ∃ s : SV, s.tl = l ∧ (s = .nil ∨ ∃ a b, s = .cons a b) ∧ k s = true
  | [], k, h => ⟨.nil, rfl, .inl rfl, h⟩
  | v :: l, k, h => by
    cases v with
    | agg c =>
      obtain ⟨c⟩ := c
      obtain ⟨h1, h2⟩ := ifK_true (show ifK (Nat.ble c.length 64) _ bad = true from h)
      obtain ⟨f, h3, h4⟩ := setL_row (Nat.le_of_ble_eq_true h1) h2
      obtain ⟨s, g1, _, g3⟩ := tupK_true l _ (show tupK l _ = true from h3)
      exact ⟨.cons (.row c.length f) s, by show Value.agg ⟨rowL f c.length⟩ :: s.tl = _; rw [h4, g1], .inr ⟨_, _, rfl⟩, g3⟩
    | _ =>
      have h' : fvP _ (fun v => tupK l fun r => k (.cons (.val v) r)) = true := h
      obtain ⟨x, hx, h1⟩ := fvP_true h'
      obtain ⟨s, g1, _, g3⟩ := tupK_true l _ h1
      exact ⟨.cons (.val x) s, by show x.up :: s.tl = _; rw [hx, g1], .inr ⟨_, _, rfl⟩, g3⟩
theorem svV_eq {v : Value} {k : SV → R} (h : oneB v = true) : svV v k = fvP v fun x => k (.val x) := by cases v <;> first | rfl | cases h
theorem svV_true {v : Value} {k : SV → R} (h : svV v k = true) : ∃ s : SV, s.up = v ∧ k s = true := by
  cases v with
  | agg c =>
    obtain ⟨c⟩ := c
    obtain ⟨h1, h2⟩ := ifK_true (show ifK (Nat.ble c.length 64) _ bad = true from h)
    obtain ⟨f, h3, h4⟩ := setL_row (Nat.le_of_ble_eq_true h1) h2
    exact ⟨.row c.length f, by show Value.agg ⟨rowL f c.length⟩ = _; rw [h4], h3⟩
  | tuple l =>
    obtain ⟨l⟩ := l
    obtain ⟨s, g1, g2, g3⟩ := tupK_true l k h
    refine ⟨s, ?_, g3⟩
    rcases g2 with rfl | ⟨a, b, rfl⟩
    · show Value.tuple ⟨SV.tl .nil⟩ = _; rw [g1]
    · show Value.tuple ⟨SV.tl (.cons a b)⟩ = _; rw [g1]
  | _ =>
    rw [svV_eq rfl] at h
    obtain ⟨x, hx, h1⟩ := fvP_true h
    exact ⟨.val x, hx, h1⟩
theorem xsOf_ok : ∀ (l : List Operand) (X : Xs), xsOf n l = some X → ∀ L t k, SlR L t → n ≤ t.size → X L k = true → ∃ T, k T = true ∧ (∀ d, Operand.tmp d ∈ l → lookT d T = ev t (.tmp d))
  | [], X, hX, L, t, k, _, _, h => by injection hX with hX; subst hX; exact ⟨[], h, fun d hd => by cases hd⟩
  | x :: l, X, hX, L, t, k, hL, hn, h => by
    have other : xsOf n l = some X → (∀ d, x ≠ .tmp d) → ∃ T, k T = true ∧ (∀ d, Operand.tmp d ∈ x :: l → lookT d T = ev t (.tmp d)) := by
      intro hX hx
      obtain ⟨T, h1, h2⟩ := xsOf_ok l X hX L t k hL hn h
      refine ⟨T, h1, fun d hd => ?_⟩
      rcases List.mem_cons.1 hd with hd | hd
      · exact absurd hd.symm (hx d)
      · exact h2 d hd
    cases x with
    | tmp e =>
      unfold xsOf at hX
      cases ha : accT n e with
      | none => rw [ha] at hX; cases hX
      | some a =>
        rw [ha] at hX
        cases hr : xsOf n l with
        | none => rw [hr] at hX; cases hX
        | some r =>
          rw [hr] at hX
          injection hX with hX; subst hX
          obtain ⟨T, h1, h2⟩ := xsOf_ok l r hr L t _ hL hn (show r L _ = true from h)
          refine ⟨_, h1, fun d hd => ?_⟩
          show (bif Nat.beq e d then (a L).up else lookT d T) = _
          by_cases hed : e = d
          · subst hed
            rw [Nat.beq_refl, cond_true]
            exact accT_ok ha L t hL hn
          · rw [Tr.beq_false hed, cond_false]
            rcases List.mem_cons.1 hd with hd | hd
            · injection hd with hd; exact absurd hd.symm hed
            · exact h2 d hd
    | const v => exact other hX (fun d hd => by cases hd)
    | global g => exact other hX (fun d hd => by cases hd)
    | func f => exact other hX (fun d hd => by cases hd)
theorem rSlow_true {o : Oper} {X : Xs} (hX : xsOf n o.op.operands.toList = some X) {rec : Rc} {L : Sl} {F : FM} {k : SV → FM → R} {t : Array Value} (hL : SlR L t) (hn : n ≤ t.size) (h : rSlow P o X rec L F k = true) : ∃ sv, opQ P (ev t) o = some (SV.up sv) ∧ k sv F = true := by
  obtain ⟨T, h1, h2⟩ := xsOf_ok _ _ hX L t _ hL hn (show X L _ = true from h)
  have hcg : opQ P (lookO T) o = opQ P (ev t) o := opQ_congr o fun x hx => by
    cases x with
    | tmp d => exact h2 d (Array.mem_toList_iff.2 hx)
    | const v => rfl
    | global g => rfl
    | func f => rfl
  rw [hcg] at h1
  cases hq : opQ P (ev t) o with
  | none => rw [hq] at h1; exact not_bad h1
  | some v =>
    rw [hq] at h1
    obtain ⟨s, g1, g2⟩ := svV_true (show svV v (fun v => k v F) = true from h1)
    exact ⟨s, by rw [g1], g2⟩
theorem slow_ok {o : Oper} (hc : ∀ t v, opQ P t o = some v → cls t o = .pure) (hk : okOp o = true) : QOk P n o (slowOf P n o) := by
  unfold slowOf slowD
  split
  · rename_i X hX
    refine QOk.val fun rec L F k t A h1 h2 hM h => ?_
    have h : rSlow P o X rec L F k = true := h
    obtain ⟨sv, g1, g2⟩ := rSlow_true hX h1 h2 h
    exact ⟨_, quiet_pure hk (hc _ _ g1) g1, sv, F, rfl, hM, g2⟩
  · exact QOk.bad
theorem slowL_ok {o : Oper} (hc : ∀ t v A, okOp o = true → opQ P t o = some v → opA P t o A = some (.val v, A)) (hk : okOp o = true) : LOk P B w0 n o (slowOf P n o) := by
  unfold slowOf slowD
  split
  · rename_i X hX
    intro rec L F k t A hR h1 h2 hM h
    have h : rSlow P o X rec L F k = true := h
    obtain ⟨sv, g1, g2⟩ := rSlow_true hX h1 h2 h
    rw [hc _ _ A hk g1]
    exact ⟨sv, F, rfl, hM, g2⟩
  · exact LOk.bad
end
end
end Go.Proofs.YtnneooidkbhbeaaGreatDoor.Fast
