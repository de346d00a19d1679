/- A fast evaluator, part I: literals with parts; functions; slices; what is slow; guards. Of no program. -/
import Derived.Test.YtfeppmhcpfccfaaGreatDoorEvH
set_option linter.unusedVariables false
set_option linter.unusedSimpArgs false
namespace Go.Proofs.YtfeppmhcpfccfaaGreatDoor.Fast
open Go Go.RowKit Go.Proofs.YtfeppmhcpfccfaaGreatDoor.Sim
noncomputable section

/-- parts that are laid over cells -/
theorem foldl_get : ∀ (l : List Value) (j off : Nat) (cs : Array Value) (p : Nat), off + j + l.length ≤ cs.size → ((l.zipIdx j).foldl (fun cs x => cs.setIfInBounds (off + x.2) x.1) cs)[p]? = if off + j ≤ p ∧ p < off + j + l.length then l[p - (off + j)]? else cs[p]?
  | [], j, off, cs, p, _ => by rw [if_neg (by simp only [List.length_nil]; omega)]; rfl
  | v :: l, j, off, cs, p, h => by
    simp only [List.length_cons] at h
    simp only [List.zipIdx_cons, List.foldl_cons]
    rw [foldl_get l (j + 1) off _ p (by rw [Array.size_setIfInBounds]; omega), Array.getElem?_setIfInBounds]
    simp only [List.length_cons]
    by_cases h1 : p = off + j
    · subst h1
      rw [if_neg (by omega), if_pos rfl, if_pos (by omega), if_pos (by omega), Nat.sub_self]
      rfl
    · by_cases h2 : off + (j + 1) ≤ p ∧ p < off + (j + 1) + l.length
      · rw [if_pos h2, if_pos (by omega), show p - (off + j) = p - (off + (j + 1)) + 1 by omega, List.getElem?_cons_succ]
      · rw [if_neg h2, if_neg (fun e => h1 e.symm), if_neg (by omega)]
theorem foldl_size : ∀ (l : List (Value × Nat)) (off : Nat) (cs : Array Value), (l.foldl (fun cs x => cs.setIfInBounds (off + x.2) x.1) cs).size = cs.size
  | [], _, _ => rfl
  | x :: l, off, cs => by rw [List.foldl_cons, foldl_size l, Array.size_setIfInBounds]
theorem fill_cons {place : Nat → Option (Nat × Nat)} {i : Nat} {v : Value} {rest : List (Nat × Value)} {cells : Array Value} {off size : Nat} (hp : place i = some (off, size)) (hv : v.cells.size = size) (hle : off + size ≤ cells.size) :
    ∃ cells2 : Array Value, Instr.fill place cells ((i, v) :: rest) = Instr.fill place cells2 rest ∧ cells2.size = cells.size ∧ ∀ p : Nat, cells2[p]? = if off ≤ p ∧ p < off + size then v.cells[p - off]? else cells[p]? := by
  refine ⟨v.cells.zipIdx.foldl (fun cs (x : Value × Nat) => cs.setIfInBounds (off + x.2) x.1) cells, ?_, ?_, fun p => ?_⟩
  · show (match place i with | none => none | some (off, size) => _) = _
    rw [hp]
    dsimp only
    rw [if_neg]
    rw [hv]
    simp
    omega
  · rw [foldArr_eq, foldl_size]
  · have hl : v.cells.toList.length = size := by rw [Array.length_toList]; exact hv
    rw [foldArr_eq, foldl_get _ 0 off cells p (by omega), hl]
    simp only [Nat.add_zero, Array.getElem?_toList]
/-- cells stand as a row's do -/
structure RowR (N : Nat) (f : Ro) (c : Array Value) : Prop where
  size : c.size = N
  get : ∀ p, p < N → c[p]? = some (Lr.get p f).up
section
variable {P : Program} {B : Nat} {w0 : Base} {n : Nat} {gl : Nat → Bool} {dst : Option Tmp} {ty : TypeId} {pos : String} {after : Array Edge} {guard : Option (Nat × Bool)}
theorem partsB_ok {N : Nat} (hN : N ≤ 64) {place : Nat → Option (Nat × TypeId)} {place' : Nat → Option (Nat × Nat)} (hpl : ∀ i off t, place i = some (off, t) → place' i = some (off, sizeB P t)) : ∀ (l : List (Nat × Operand)) (b : Bd), partsB gl P n N place l = some b → ∀ L t f c k, SlR L t → n ≤ t.size → RowR N f c → b L f k = true →
    ∃ f' c', Instr.fill place' c (l.map fun p => (p.1, ev t p.2)) = some c' ∧ RowR N f' c' ∧ k f' = true
  | [], b, hb, L, t, f, c, k, hL, hn, hr, h => by
    injection hb with hb; subst hb
    exact ⟨f, c, rfl, hr, h⟩
  | (i, x) :: l, b, hb, L, t, f, c, k, hL, hn, hr, h => by
    unfold partsB at hb
    cases hp : place i with
    | none => rw [hp] at hb; cases hb
    | some ot =>
      obtain ⟨off, tt⟩ := ot
      rw [hp] at hb
      cases hr2 : partsB gl P n N place l with
      | none => rw [hr2] at hb; cases hb
      | some r =>
        rw [hr2] at hb
        dsimp only at hb
        cases hq : Nat.ble (off + sizeB P tt) N with
        | false => rw [hq] at hb; cases hb
        | true =>
          rw [hq, cond_true] at hb
          have hle : off + sizeB P tt ≤ N := Nat.le_of_ble_eq_true hq
          unfold segB at hb
          cases ha : accOf gl n x with
          | none => rw [ha] at hb; cases hb
          | some a =>
            rw [ha] at hb
            have hacc := accOf_ok ha L t hL hn
            cases hg : aggB P tt with
            | none => rw [hg] at hb; cases hb
            | some q =>
              rw [hg] at hb
              cases q with
              | true =>
                injection hb with hb; subst hb
                obtain ⟨m, g, h1, h2⟩ := rowK_true (show rowK (a L) _ = true from h)
                obtain ⟨h3, h4⟩ := ifK_true h2
                obtain rfl := beq_eq h3
                obtain ⟨f2, h5, h6⟩ := copyC_true _ _ _ _ _ _ (by omega) (by omega) h4
                rw [h1] at hacc
                have hcs : (ev t x).cells = ⟨rowL g (sizeB P tt)⟩ := by rw [← hacc]; rfl
                obtain ⟨c2, q1, q2, q3⟩ := fill_cons (rest := l.map fun p => (p.1, ev t p.2)) (cells := c) (hpl _ _ _ hp) (v := ev t x) (by rw [hcs]; show (rowL g (sizeB P tt)).toArray.size = _; simp [rowL_len]) (by rw [hr.size]; exact hle)
                have hr' : RowR N f2 c2 := ⟨by rw [q2, hr.size], fun p hp => by
                  rw [q3 p, h6 p (by omega), hcs]
                  by_cases hin : off ≤ p ∧ p < off + sizeB P tt
                  · rw [if_pos hin, if_pos hin]
                    show (rowL g (sizeB P tt)).toArray[p - off]? = _
                    rw [List.getElem?_toArray, rowL_get, if_pos (by omega), Nat.zero_add]
                  · rw [if_neg hin, if_neg hin]; exact hr.get p hp⟩
                obtain ⟨f3, c3, z1, z2, z3⟩ := partsB_ok hN hpl l r hr2 L t f2 c2 k hL hn hr' h5
                exact ⟨f3, c3, q1.trans z1, z2, z3⟩
              | false =>
                dsimp only at hb
                cases hs : Nat.beq (sizeB P tt) 1 with
                | false => rw [hs] at hb; cases hb
                | true =>
                  rw [hs, cond_true] at hb
                  injection hb with hb; subst hb
                  have hs1 := beq_eq hs
                  rw [hs1] at hle
                  obtain ⟨v, h1, h2⟩ := valK_true (show valK (a L) _ = true from h)
                  rw [w64_put (by omega)] at h2
                  rw [h1] at hacc
                  have hcs : (ev t x).cells = #[v.up] := by rw [← hacc]; exact oneB_cells (up_one v)
                  obtain ⟨c2, q1, q2, q3⟩ := fill_cons (rest := l.map fun p => (p.1, ev t p.2)) (cells := c) (hpl _ _ _ hp) (v := ev t x) (by rw [hcs, hs1]; rfl) (by rw [hr.size, hs1]; exact hle)
                  have hr' : RowR N (Lr.set off v f) c2 := ⟨by rw [q2, hr.size], fun p hp => by
                    rw [q3 p, Lr_set _ _ (by omega) (by omega), hcs, hs1]
                    by_cases hin : p = off
                    · subst hin
                      rw [if_pos (by omega), if_pos rfl, Nat.sub_self]
                      rfl
                    · rw [if_neg (by omega), if_neg hin]; exact hr.get p hp⟩
                  obtain ⟨f3, c3, z1, z2, z3⟩ := partsB_ok hN hpl l r hr2 L t _ c2 k hL hn hr' h2
                  exact ⟨f3, c3, q1.trans z1, z2, z3⟩
theorem rBuild_ok {N : Nat} {f0 : Ro} {c0 : Array Value} (hN : N ≤ 64) (h0 : RowR N f0 c0) {place : Nat → Option (Nat × TypeId)} {place' : Nat → Option (Nat × Nat)} (hpl : ∀ i off t, place i = some (off, t) → place' i = some (off, sizeB P t)) {s : TypeId} {ps : Array (Nat × Operand)} {b : Bd} (hb : partsB gl P n N place ps.toList = some b)
    (hbt : ∀ l, P.built s l = Instr.fill place' c0 l) (hk : okOp ⟨dst, .build s ps, ty, pos, after, guard⟩ = true) : QOk P n ⟨dst, .build s ps, ty, pos, after, guard⟩ (rBuild f0 N b) :=
  QOk.pure hk (fun _ => rfl) fun rec L F k t h1 h2 h => by
    obtain ⟨f, c, g1, g2, g3⟩ := partsB_ok hN hpl _ _ hb L t f0 c0 _ h1 h2 h0 h
    refine ⟨_, ?_, g3⟩
    show (match P.built s (partsA (ev t) ps) with | some c => some (Value.agg c) | none => none) = _
    rw [hbt]
    unfold partsA
    rw [g1]
    show some (Value.agg c) = some (Value.agg ⟨rowL f N⟩)
    congr 2
    apply Array.toList_inj.1
    apply List.ext_getElem?
    intro p
    show c.toList[p]? = (rowL f N)[p]?
    rw [Array.getElem?_toList, rowL_get]
    by_cases hp : p < N
    · rw [if_pos hp, g2.get p hp]
    · rw [if_neg hp, Array.getElem?_eq_none (by rw [g2.size]; omega)]
/-- functions with what they captured -/
theorem asOf_ok : ∀ (l : List Operand) (s : As), asOf gl n l = some s → ∀ L t k, SlR L t → n ≤ t.size → s L k = true → k (l.map (ev t)) = true
  | [], s, hs, L, t, k, hL, hn, h => by injection hs with hs; subst hs; exact h
  | x :: l, s, hs, L, t, k, hL, hn, h => by
    unfold asOf at hs
    cases ha : accOf gl n x with
    | none => rw [ha] at hs; cases hs
    | some a =>
      rw [ha] at hs
      cases hr : asOf gl n l with
      | none => rw [hr] at hs; cases hs
      | some r =>
        rw [hr] at hs
        injection hs with hs; subst hs
        obtain ⟨v, h1, h2⟩ := valK_true (show valK (a L) _ = true from h)
        have hacc := accOf_ok ha L t hL hn
        rw [h1] at hacc
        have := asOf_ok l r hr L t _ hL hn h2
        show k (ev t x :: l.map (ev t)) = true
        rw [← hacc]
        exact this
theorem rFunc_ok {g : FuncId} {f c : Array Operand} {fs cs : As} (hf : asOf gl n f.toList = some fs) (hc : asOf gl n c.toList = some cs) (hk : okOp ⟨dst, .makeFunc (.func g) f c, ty, pos, after, guard⟩ = true) : QOk P n ⟨dst, .makeFunc (.func g) f c, ty, pos, after, guard⟩ (rFunc g fs cs) :=
  QOk.pure hk (fun _ => rfl) fun rec L F k t h1 h2 h => by
    have h3 := asOf_ok _ _ hf L t _ h1 h2 h
    have h4 := asOf_ok _ _ hc L t _ h1 h2 h3
    exact ⟨_, rfl, h4⟩
/-- slices of slices -/
theorem boOf_ok {x : Option Operand} {b : Bo} (hb : boOf gl n x = some b) {L : Sl} {t : Array Value} (hL : SlR L t) (hn : n ≤ t.size) {d : Nat} {k : Nat → R} (h : b L d k = true) : ∃ i, natOf (x.map (ev t)) d = some i ∧ k i = true := by
  unfold boOf at hb
  cases x with
  | none => injection hb with hb; subst hb; exact ⟨d, rfl, h⟩
  | some x =>
    dsimp only at hb
    cases ha : accOf gl n x with
    | none => rw [ha] at hb; cases hb
    | some a =>
      rw [ha] at hb
      injection hb with hb; subst hb
      obtain ⟨j, z, h1, h2⟩ := intK_true (show intK (a L) _ = true from h)
      obtain ⟨i, rfl, h3⟩ := natV_true h2
      have hacc := accOf_ok ha L t hL hn
      rw [h1] at hacc
      refine ⟨i, ?_, h3⟩
      show natOf (some (ev t x)) d = some i
      rw [← hacc]
      show (bif decide (0 ≤ Int.ofNat i) then some (Int.ofNat i).toNat else none) = some i
      rw [decide_eq_true (show (0 : Int) ≤ Int.ofNat i from Int.natCast_nonneg i)]
      rfl
theorem rSlice_ok {s e : TypeId} {x : Operand} {lo hi : Option Operand} {a : Acc} {l h' : Bo} {it : TypeInfo} (hu : P.underlying s = some (.slice e)) (hi' : P.info? e = some it) (ha : AccOk n x a) (hl : boOf gl n lo = some l) (hh : boOf gl n hi = some h') (hk : okOp ⟨dst, .slice s x lo hi none, ty, pos, after, guard⟩ = true) : QOk P n ⟨dst, .slice s x lo hi none, ty, pos, after, guard⟩ (rSlice e it.size a l h') :=
  QOk.val fun rec L F k t A h1 h2 hM h => by
    have hcls : ∀ {b m c}, ev t x = .slice b m c → cls (ev t) ⟨dst, .slice s x lo hi none, ty, pos, after, guard⟩ = .mem := by
      intro b m c he
      show (match ev t x with | .slice _ _ _ => Cls.mem | _ => Cls.pure) = _
      rw [he]
    have hop : opM P (ev t) A ⟨dst, .slice s x lo hi none, ty, pos, after, guard⟩ = sliceA P s (ev t x) (lo.map (ev t)) (hi.map (ev t)) A := rfl
    rcases slcK_true h with ⟨m, c, h3, h4⟩ | ⟨b, o, m, c, h3, h4⟩
    · have e1 : ev t x = .slice none m c := (ha L t h1 h2).symm.trans (by rw [h3]; rfl)
      obtain ⟨i, g1, g2⟩ := boOf_ok hl h1 h2 h4
      obtain ⟨j, g3, g4⟩ := boOf_ok hh h1 h2 g2
      obtain ⟨g5, g6⟩ := ifK_true g4
      refine ⟨.slice none (j - i) (c - i), quiet_mem hk (hcls e1) ?_, _, F, rfl, hM, (g6 : k (.val (.nilS (j - i) (c - i))) F = true)⟩
      rw [hop, e1]
      unfold sliceA
      rw [hu]
      dsimp only
      rw [hi', g1, g3]
      dsimp only
      rw [g5]
      rfl
    · have e1 : ev t x = .slice (some ⟨b, o, none⟩) m c := (ha L t h1 h2).symm.trans (by rw [h3]; rfl)
      obtain ⟨i, g1, g2⟩ := boOf_ok hl h1 h2 h4
      obtain ⟨j, g3, g4⟩ := boOf_ok hh h1 h2 g2
      obtain ⟨g5, g6⟩ := ifK_true g4
      obtain ⟨hb, rows, m2, esz, e', fam, ro, g7, g8⟩ := blkK_true g6
      obtain ⟨cc, hc⟩ := hM.at hb g7
      have key : ∀ v, (bif fam then (bif Nat.beq e' e then some (Value.slice (some ⟨b, o + i * it.size, none⟩) (j - i) (c - i)) else none)
            else some (.slice (some ⟨b, bif Nat.beq c i then o else o + i * it.size, none⟩) (j - i) (c - i))) = some v → opM P (ev t) A ⟨dst, .slice s x lo hi none, ty, pos, after, guard⟩ = some v := by
        intro v hv
        rw [hop, e1]
        unfold sliceA
        rw [hu]
        dsimp only
        rw [hi', g1, g3]
        dsimp only
        rw [g5, cond_true, hc.get]
        exact hv
      cases fam with
      | true =>
        obtain ⟨g9, g10⟩ := ifK_true (show ifK (Nat.beq e' e) _ bad = true from g8)
        exact ⟨_, quiet_mem hk (hcls e1) (key _ (by rw [g9]; rfl)), .val (.slc b (o + i * it.size) (j - i) (c - i)), F, rfl, hM, g10⟩
      | false =>
        have g9 : ifK (Nat.beq c i) (k (.val (.slc b o (j - i) (c - i))) F) (k (.val (.slc b (o + i * it.size) (j - i) (c - i))) F) = true := g8
        cases hci : Nat.beq c i with
        | true =>
          rw [hci] at g9
          exact ⟨_, quiet_mem hk (hcls e1) (key (.slice (some ⟨b, o, none⟩) (j - i) (c - i)) (by rw [hci]; rfl)), .val (.slc b o (j - i) (c - i)), F, rfl, hM, g9⟩
        | false =>
          rw [hci] at g9
          exact ⟨_, quiet_mem hk (hcls e1) (key (.slice (some ⟨b, o + i * it.size, none⟩) (j - i) (c - i)) (by rw [hci]; rfl)), .val (.slc b (o + i * it.size) (j - i) (c - i)), F, rfl, hM, g9⟩
/-- a slice's length -/
theorem rLen_ok {s e : TypeId} {x : Operand} {a : Acc} {args : Array Operand} {ts : Array TypeId} (hargs : args.toList = [x]) (hts : ts.toList = [s]) (hu : P.underlying s = some (.slice e)) (ha : AccOk n x a) (hk : okOp ⟨dst, .call ⟨.builtin .len, args, ts⟩, ty, pos, after, guard⟩ = true) : QOk P n ⟨dst, .call ⟨.builtin .len, args, ts⟩, ty, pos, after, guard⟩ (rLen a) :=
  QOk.pureAt hk fun rec L F k t h1 h2 h => by
    have hts0 : ts[0]? = some s := by rw [← Array.getElem?_toList, hts]; rfl
    have key : ∀ {b m c}, ev t x = .slice b m c → opQ P (ev t) ⟨dst, .call ⟨.builtin .len, args, ts⟩, ty, pos, after, guard⟩ = some (.int .i64 m) := by
      intro b m c he
      show (match args.toList with | [x] => _ | _ => none) = _
      rw [hargs]
      dsimp only
      rw [he]
      dsimp only
      rw [hts0]
      dsimp only
      rw [hu]
    rcases slcK_true h with ⟨m, c, h3, h4⟩ | ⟨b, o, m, c, h3, h4⟩
    · have e1 : ev t x = .slice none m c := (ha L t h1 h2).symm.trans (by rw [h3]; rfl)
      exact ⟨.val (.int .i64 (Int.ofNat m)), cls_len hargs (fun b => by rw [e1]; exact ⟨fun e => (by cases e), fun e => (by cases e)⟩), key e1, h4⟩
    · have e1 : ev t x = .slice (some ⟨b, o, none⟩) m c := (ha L t h1 h2).symm.trans (by rw [h3]; rfl)
      exact ⟨.val (.int .i64 (Int.ofNat m)), cls_len hargs (fun b => by rw [e1]; exact ⟨fun e => (by cases e), fun e => (by cases e)⟩), key e1, h4⟩
/-- whatever else looks at no memory -/
theorem setL_true : ∀ (l : List Value) (i : Nat) (f : Ro) (k : Ro → R), i + l.length ≤ 64 → setL l i f k = true → ∃ f', k f' = true ∧ ∀ p, p < 64 → if i ≤ p ∧ p < i + l.length then l[p - i]? = some (Lr.get p f').up else Lr.get p f' = Lr.get p f
  | [], i, f, k, _, h => ⟨f, h, fun p _ => by rw [if_neg (by simp only [List.length_nil]; omega)]⟩
  | v :: l, i, f, k, hl, h => by
    simp only [List.length_cons] at hl
    obtain ⟨x, hx, h1⟩ := fvP_true (show fvP v _ = true from h)
    rw [w64_put (by omega)] at h1
    obtain ⟨f', h2, h3⟩ := setL_true l (i + 1) _ k (by omega) (show setL l (i + 1) (Lr.set i x f) k = true from h1)
    refine ⟨f', h2, fun p hp => ?_⟩
    have h4 := h3 p hp
    simp only [List.length_cons]
    by_cases hq : i + 1 ≤ p ∧ p < i + 1 + l.length
    · rw [if_pos hq] at h4
      rw [if_pos (by omega), show p - i = p - (i + 1) + 1 by omega, List.getElem?_cons_succ]
      exact h4
    · rw [if_neg hq, Lr_set _ _ (by omega) hp] at h4
      by_cases he : p = i
      · subst he
        rw [if_pos rfl] at h4
        rw [if_pos (by omega), Nat.sub_self, h4, hx]
        rfl
      · rw [if_neg he] at h4
        rw [if_neg (by omega)]
        exact h4
theorem rowL_of {l : List Value} {f : Ro} (hl : l.length ≤ 64) (h : ∀ p, p < 64 → if 0 ≤ p ∧ p < 0 + l.length then l[p - 0]? = some (Lr.get p f).up else True) : rowL f l.length = l := by
  apply List.ext_getElem?
  intro p
  rw [rowL_get]
  by_cases hp : p < l.length
  · have := h p (by omega)
    rw [if_pos (by omega), Nat.sub_zero] at this
    rw [if_pos hp, this]
  · rw [if_neg hp, List.getElem?_eq_none (by omega)]
theorem setL_row {l : List Value} {k : Ro → R} (hl : l.length ≤ 64) (h : setL l 0 row0 k = true) : ∃ f, k f = true ∧ rowL f l.length = l := by
  obtain ⟨f, h1, h2⟩ := setL_true l 0 row0 k (by omega) h
  refine ⟨f, h1, rowL_of hl fun p hp => ?_⟩
  have := h2 p hp
  split
  · rename_i hq; rw [if_pos hq] at this; exact this
  · trivial
theorem tupK_true : ∀ (l : List Value) (k : SV → R), tupK l k = true → ∃ s : SV, s.tl = l ∧ (s = .nil ∨ ∃ a b, s = .cons a b) ∧ k s = true
  | [], k, h => ⟨.nil, rfl, .inl rfl, h⟩
  | v :: l, k, h => by
    cases v with
    | agg c =>
      obtain ⟨c⟩ := c
      obtain ⟨h1, h2⟩ := ifK_true (show ifK (Nat.ble c.length 64) _ bad = true from h)
      obtain ⟨f, h3, h4⟩ := setL_row (Nat.le_of_ble_eq_true h1) h2
      obtain ⟨s, g1, _, g3⟩ := tupK_true l _ (show tupK l _ = true from h3)
      exact ⟨.cons (.row c.length f) s, by show Value.agg ⟨rowL f c.length⟩ :: s.tl = _; rw [h4, g1], .inr ⟨_, _, rfl⟩, g3⟩
    | _ =>
      have h' : fvP _ (fun v => tupK l fun r => k (.cons (.val v) r)) = true := h
      obtain ⟨x, hx, h1⟩ := fvP_true h'
      obtain ⟨s, g1, _, g3⟩ := tupK_true l _ h1
      exact ⟨.cons (.val x) s, by show x.up :: s.tl = _; rw [hx, g1], .inr ⟨_, _, rfl⟩, g3⟩
theorem svV_eq {v : Value} {k : SV → R} (h : oneB v = true) : svV v k = fvP v fun x => k (.val x) := by cases v <;> first | rfl | cases h
theorem svV_true {v : Value} {k : SV → R} (h : svV v k = true) : ∃ s : SV, s.up = v ∧ k s = true := by
  cases v with
  | agg c =>
    obtain ⟨c⟩ := c
    obtain ⟨h1, h2⟩ := ifK_true (show ifK (Nat.ble c.length 64) _ bad = true from h)
    obtain ⟨f, h3, h4⟩ := setL_row (Nat.le_of_ble_eq_true h1) h2
    exact ⟨.row c.length f, by show Value.agg ⟨rowL f c.length⟩ = _; rw [h4], h3⟩
  | tuple l =>
    obtain ⟨l⟩ := l
    obtain ⟨s, g1, g2, g3⟩ := tupK_true l k h
    refine ⟨s, ?_, g3⟩
    rcases g2 with rfl | ⟨a, b, rfl⟩
    · show Value.tuple ⟨SV.tl .nil⟩ = _; rw [g1]
    · show Value.tuple ⟨SV.tl (.cons a b)⟩ = _; rw [g1]
  | _ =>
    rw [svV_eq rfl] at h
    obtain ⟨x, hx, h1⟩ := fvP_true h
    exact ⟨.val x, hx, h1⟩
theorem xsOf_ok : ∀ (l : List Operand) (X : Xs), xsOf n l = some X → ∀ L t k, SlR L t → n ≤ t.size → X L k = true → ∃ T, k T = true ∧ (∀ d, Operand.tmp d ∈ l → lookT d T = ev t (.tmp d))
  | [], X, hX, L, t, k, _, _, h => by injection hX with hX; subst hX; exact ⟨[], h, fun d hd => by cases hd⟩
  | x :: l, X, hX, L, t, k, hL, hn, h => by
    have other : xsOf n l = some X → (∀ d, x ≠ .tmp d) → ∃ T, k T = true ∧ (∀ d, Operand.tmp d ∈ x :: l → lookT d T = ev t (.tmp d)) := by
      intro hX hx
      obtain ⟨T, h1, h2⟩ := xsOf_ok l X hX L t k hL hn h
      refine ⟨T, h1, fun d hd => ?_⟩
      rcases List.mem_cons.1 hd with hd | hd
      · exact absurd hd.symm (hx d)
      · exact h2 d hd
    cases x with
    | tmp e =>
      unfold xsOf at hX
      cases ha : accT n e with
      | none => rw [ha] at hX; cases hX
      | some a =>
        rw [ha] at hX
        cases hr : xsOf n l with
        | none => rw [hr] at hX; cases hX
        | some r =>
          rw [hr] at hX
          injection hX with hX; subst hX
          obtain ⟨T, h1, h2⟩ := xsOf_ok l r hr L t _ hL hn (show r L _ = true from h)
          refine ⟨_, h1, fun d hd => ?_⟩
          show (bif Nat.beq e d then (a L).up else lookT d T) = _
          by_cases hed : e = d
          · subst hed
            rw [Nat.beq_refl, cond_true]
            exact accT_ok ha L t hL hn
          · rw [Tr.beq_false hed, cond_false]
            rcases List.mem_cons.1 hd with hd | hd
            · injection hd with hd; exact absurd hd.symm hed
            · exact h2 d hd
    | const v => exact other hX (fun d hd => by cases hd)
    | global g => exact other hX (fun d hd => by cases hd)
    | func f => exact other hX (fun d hd => by cases hd)
theorem rSlow_true {o : Oper} {X : Xs} (hX : xsOf n o.op.operands.toList = some X) {rec : Rc} {L : Sl} {F : FM} {k : SV → FM → R} {t : Array Value} (hL : SlR L t) (hn : n ≤ t.size) (h : rSlow P o X rec L F k = true) : ∃ sv, opQ P (ev t) o = some (SV.up sv) ∧ k sv F = true := by
  obtain ⟨T, h1, h2⟩ := xsOf_ok _ _ hX L t _ hL hn (show X L _ = true from h)
  have hcg : opQ P (lookO T) o = opQ P (ev t) o := opQ_congr o fun x hx => by
    cases x with
    | tmp d => exact h2 d (Array.mem_toList_iff.2 hx)
    | const v => rfl
    | global g => rfl
    | func f => rfl
  rw [hcg] at h1
  cases hq : opQ P (ev t) o with
  | none => rw [hq] at h1; exact not_bad h1
  | some v =>
    rw [hq] at h1
    obtain ⟨s, g1, g2⟩ := svV_true (show svV v (fun v => k v F) = true from h1)
    exact ⟨s, by rw [g1], g2⟩
theorem slow_ok {o : Oper} (hc : ∀ t v, opQ P t o = some v → cls t o = .pure) (hk : okOp o = true) : QOk P n o (slowOf P n o) := by
  unfold slowOf slowD
  split
  · rename_i X hX
    refine QOk.val fun rec L F k t A h1 h2 hM h => ?_
    have h : rSlow P o X rec L F k = true := h
    obtain ⟨sv, g1, g2⟩ := rSlow_true hX h1 h2 h
    exact ⟨_, quiet_pure hk (hc _ _ g1) g1, sv, F, rfl, hM, g2⟩
  · exact QOk.bad
theorem slowL_ok {o : Oper} (hc : ∀ t v A, okOp o = true → opQ P t o = some v → opA P t o A = some (.val v, A)) (hk : okOp o = true) : LOk P B w0 n o (slowOf P n o) := by
  unfold slowOf slowD
  split
  · rename_i X hX
    intro rec L F k t A hR h1 h2 hM h
    have h : rSlow P o X rec L F k = true := h
    obtain ⟨sv, g1, g2⟩ := rSlow_true hX h1 h2 h
    rw [hc _ _ A hk g1]
    exact ⟨sv, F, rfl, hM, g2⟩
  · exact LOk.bad
end
end
end Go.Proofs.YtfeppmhcpfccfaaGreatDoor.Fast
/- A fast evaluator, part J: literals of slices; append; calls. Of no program. -/
namespace Go.Proofs.YtfeppmhcpfccfaaGreatDoor.Fast
open Go Go.RowKit Go.Proofs.YtfeppmhcpfccfaaGreatDoor.Sim
noncomputable section

/-- cells stand as rows do -/
structure RowsR (m s : Nat) (r : Rows) (c : Array Value) : Prop where
  size : c.size = m * s
  get : ∀ j, j < m * s → c[j]? = some (cellAt r s j).up
theorem div_iff {j s i : Nat} (hs : 0 < s) : j / s = i ↔ i * s ≤ j ∧ j < i * s + s := by
  constructor
  · intro h
    have h1 := Nat.div_add_mod j s
    have h2 := Nat.mod_lt j hs
    rw [h, Nat.mul_comm] at h1
    omega
  · rintro ⟨h1, h2⟩
    have : j = i * s + (j - i * s) := by omega
    rw [this]
    exact div_of (by omega)
theorem mod_eq {j s i : Nat} (hs : 0 < s) (h : j / s = i) : j % s = j - i * s := by
  have h1 := Nat.div_add_mod j s
  rw [h, Nat.mul_comm] at h1
  omega
section
variable {P : Program} {B : Nat} {w0 : Base} {n : Nat} {gl : Nat → Bool} {dst : Option Tmp} {ty : TypeId} {pos : String} {after : Array Edge} {guard : Option (Nat × Bool)}
theorem partsS_ok {e : TypeId} {m s : Nat} (hs : sizeB P e = s) (h0 : 0 < s) (h1 : s ≤ 64) (h2 : m ≤ 512) : ∀ (l : List (Nat × Operand)) (b : Bs), partsS gl P n e m l = some b → ∀ L t f c k, SlR L t → n ≤ t.size → RowsR m s f c → b L f k = true →
    ∃ f' c', Instr.fill (fun i => some (i * s, s)) c (l.map fun p => (p.1, ev t p.2)) = some c' ∧ RowsR m s f' c' ∧ k f' = true
  | [], b, hb, L, t, f, c, k, hL, hn, hr, h => by
    injection hb with hb; subst hb
    exact ⟨f, c, rfl, hr, h⟩
  | (i, x) :: l, b, hb, L, t, f, c, k, hL, hn, hr, h => by
    unfold partsS at hb
    cases hi : Nat.blt i m with
    | false => rw [hi] at hb; cases hb
    | true =>
      rw [hi] at hb
      have him := blt_lt hi
      cases hr2 : partsS gl P n e m l with
      | none => rw [hr2] at hb; cases hb
      | some r =>
        rw [hr2] at hb
        dsimp only [cond_true] at hb
        unfold segS at hb
        have hle : i * s + s ≤ m * s := by rw [← Nat.succ_mul]; exact Nat.mul_le_mul_right _ him
        cases ha : accOf gl n x with
        | none => rw [ha] at hb; cases hb
        | some a =>
          rw [ha] at hb
          have hacc := accOf_ok ha L t hL hn
          have fin : ∀ (g : Ro) (vs : List Value), (ev t x).cells.toList = vs → vs.length = s → (∀ p, p < s → vs[p]? = some (Lr.get p g).up) → r L (Lw.set i g f) k = true → ∃ f' c', Instr.fill (fun i => some (i * s, s)) c (((i, x) :: l).map fun p => (p.1, ev t p.2)) = some c' ∧ RowsR m s f' c' ∧ k f' = true := by
            intro g vs hv hl hg hk
            obtain ⟨c2, q1, q2, q3⟩ := fill_cons (place := fun i => some (i * s, s)) (rest := l.map fun p => (p.1, ev t p.2)) (cells := c) (i := i) rfl (v := ev t x) (by rw [← Array.length_toList, hv, hl]) (by rw [hr.size]; exact hle)
            have hr' : RowsR m s (Lw.set i g f) c2 := ⟨by rw [q2, hr.size], fun j hj => by
              rw [q3 j, row_set him h0 h2 _ _ hj]
              by_cases hin : j / s = i
              · rw [if_pos ((div_iff h0).1 hin), if_pos hin, ← Array.getElem?_toList, hv, ← mod_eq h0 hin, hg _ (Nat.mod_lt _ h0)]
              · rw [if_neg (fun q => hin ((div_iff h0).2 q)), if_neg hin]; exact hr.get j hj⟩
            obtain ⟨f3, c3, z1, z2, z3⟩ := partsS_ok hs h0 h1 h2 l r hr2 L t _ c2 k hL hn hr' hk
            exact ⟨f3, c3, q1.trans z1, z2, z3⟩
          cases hg : aggB P e with
          | none => rw [hg] at hb; cases hb
          | some q =>
            rw [hg] at hb
            cases q with
            | true =>
              injection hb with hb; subst hb
              obtain ⟨m', g, h3, h4⟩ := rowK_true (show rowK (a L) _ = true from h)
              obtain ⟨h5, h6⟩ := ifK_true h4
              obtain rfl := beq_eq h5
              rw [w512_put (by omega)] at h6
              rw [h3] at hacc
              exact fin g (rowL g (sizeB P e)) (by rw [← hacc]; rfl) (by rw [rowL_len, hs]) (fun p hp => by rw [rowL_get, if_pos (by omega)]) h6
            | false =>
              dsimp only at hb
              cases hs1 : Nat.beq (sizeB P e) 1 with
              | false => rw [hs1] at hb; cases hb
              | true =>
                rw [hs1, cond_true] at hb
                injection hb with hb; subst hb
                have hs2 := beq_eq hs1
                obtain ⟨v, h3, h4⟩ := valK_true (show valK (a L) _ = true from h)
                rw [w512_put (by omega)] at h4
                rw [h3] at hacc
                refine fin (cell1 v) [v.up] (by rw [← hacc]; show (FV.up v).cells.toList = _; rw [oneB_cells (up_one v)]) (by rw [← hs, hs2]; rfl) (fun p hp => ?_) h4
                have : p = 0 := by omega
                subst this
                rw [cell1_at]; rfl
theorem rBuildSlice_ok {s e : TypeId} {len : Nat} {ps : Array (Nat × Operand)} {z : List Value} {b : Bs} (hu : P.underlying s = some (.slice e)) (hz : zeroB P e = some z) (hb : partsS gl P n e len ps.toList = some b) (hl : len ≤ 512) (hz6 : z.length ≤ 64) (hk : okOp ⟨dst, .buildSlice s len ps, ty, pos, after, guard⟩ = true) :
    QOk P n ⟨dst, .buildSlice s len ps, ty, pos, after, guard⟩ (rBuildSlice (rowOf z 0 row0) b len z.length e) := by
  intro rec L F k t A h1 h2 hM h
  obtain ⟨it, v, hi, hv, hcz, hcs, hpos, hzl, hsz, hone⟩ := zeroB_spec hz
  have hszl : sizeB P e = z.length := by rw [hsz, hzl]
  have h0 : 0 < z.length := by omega
  have hini : RowsR len z.length (r8 (r8 (r8 (rowOf z 0 row0)))) ((Array.range (len * it.size)).map (v.cells[· % v.cells.size]!)) := by
    refine ⟨by simp [hzl], fun j hj => ?_⟩
    rw [hzl] at hj
    have hm : j % z.length < z.length := Nat.mod_lt _ h0
    unfold cellAt
    have hd : j / z.length < len := Nat.div_lt_of_lt_mul (by rw [hzl, Nat.mul_comm]; exact hj)
    rw [r8_at _ _ (by omega), ← rowOf_up hz6 hone hm row0, Array.getElem?_map, Array.getElem?_range, if_pos hj, Option.map_some, ← hcz, Array.getElem?_toList]
    have e1 : v.cells.size = z.length := by rw [hcs, hzl]
    rw [hcz, e1, getElem!_pos v.cells _ (by omega), ← Array.getElem?_eq_getElem]
  obtain ⟨f, c, g1, g2, g3⟩ := partsS_ok hszl h0 hz6 hl _ _ hb L t _ _ _ h1 h2 hini h
  have hgh : ghostA P (ev t) ⟨dst, .buildSlice s len ps, ty, pos, after, guard⟩ = some (c, e, some (len, len)) := by
    show (match P.underlying s with | some (.slice e) => _ | _ => none) = _
    rw [hu]
    dsimp only
    rw [hi]
    dsimp only
    rw [hv]
    dsimp only
    have hq : Nat.ble (len * it.size) 16777216 = true := by
      rw [hzl] at hz6
      have q1 : len * it.size ≤ 512 * 64 := Nat.mul_le_mul hl hz6
      exact Nat.ble_eq_true_of_le (by omega)
    rw [hq, cond_true]
    rw [hzl] at g1
    unfold partsA
    rw [g1]
  rw [mk_ghost hk (fun _ => rfl) hgh]
  obtain ⟨h3, h4⟩ := newF_true g3
  refine ⟨hM.room h3, _, _, ?_, hM.add h3 (.blk h0 hz6 hl g2.size g2.get), h4⟩
  rw [hM.next]
  rfl
/-- arguments: places i, i + 1, .. hold what l tells, the others what they held -/
def Laid (l : List Value) (i : Nat) (f f' : Sl) : Prop := ∀ d, d < 512 → (i ≤ d ∧ d < i + l.length → some (Ls.get d f').up = l[d - i]?) ∧ (¬ (i ≤ d ∧ d < i + l.length) → Ls.get d f' = Ls.get d f)
theorem Laid.nil {i : Nat} {f : Sl} : Laid [] i f f := fun d _ => ⟨fun h => absurd h (by simp only [List.length_nil]; omega), fun _ => rfl⟩
theorem Laid.cons {v : Value} {l : List Value} {i : Nat} {f f' : Sl} {s : SV} (hi : i < 512) (hs : s.up = v) (h : Laid l (i + 1) (Ls.set i s f) f') : Laid (v :: l) i f f' := by
  intro d hd
  obtain ⟨h1, h2⟩ := h d hd
  simp only [List.length_cons]
  refine ⟨fun hin => ?_, fun hout => ?_⟩
  · by_cases hdi : d = i
    · subst hdi
      rw [h2 (by omega), Ls_set _ _ hi hd, if_pos rfl, Nat.sub_self, hs]
      rfl
    · rw [h1 (by omega), show d - i = d - (i + 1) + 1 by omega, List.getElem?_cons_succ]
  · rw [h2 (by omega), Ls_set _ _ hi hd, if_neg (by omega)]
theorem Laid.trans {l m : List Value} {i : Nat} {f g h : Sl} (h1 : Laid l i f g) (h2 : Laid m (i + l.length) g h) : Laid (l ++ m) i f h := by
  intro d hd
  obtain ⟨a1, a2⟩ := h1 d hd
  obtain ⟨b1, b2⟩ := h2 d hd
  rw [List.length_append]
  refine ⟨fun hin => ?_, fun hout => ?_⟩
  · by_cases hq : d < i + l.length
    · rw [b2 (by omega), a1 (by omega), List.getElem?_append_left (by omega)]
    · rw [b1 (by omega), List.getElem?_append_right (by omega)]
      congr 1
      omega
  · rw [b2 (by omega), a2 (by omega)]
theorem Laid.arg {l : List Value} {f : Sl} (h : Laid l 0 slots0 f) (hl : l.length ≤ 512) {args : Array Value} (ha : args.toList = l) : ArgR f args := by
  have hs : args.size = l.length := by rw [← Array.length_toList, ha]
  refine ⟨by omega, fun d hd => ?_, fun d hd hd2 => ?_⟩
  · rw [(h d (by omega)).1 (by omega), ← ha, Array.getElem?_toList]
    rfl
  · rw [(h d hd2).2 (by omega)]
    show SV.up ((L512 SV).get d (r8 (r8 (r8 u0)))) = undef
    rw [r8_at _ _ hd2]
    rfl
theorem agOf_ok : ∀ (l : List Operand) (i : Nat) (s : Ag), agOf gl n l i = some s → ∀ L t f k, SlR L t → n ≤ t.size → s L f k = true → ∃ f', k f' = true ∧ Laid (l.map (ev t)) i f f' ∧ (l = [] ∨ i + l.length ≤ 512)
  | [], i, s, hs, L, t, f, k, hL, hn, h => by
    injection hs with hs; subst hs
    exact ⟨f, h, Laid.nil, .inl rfl⟩
  | x :: l, i, s, hs, L, t, f, k, hL, hn, h => by
    unfold agOf at hs
    cases ha : accOf gl n x with
    | none => rw [ha] at hs; cases hs
    | some a =>
      rw [ha] at hs
      cases hr : agOf gl n l (i + 1) with
      | none => rw [hr] at hs; cases hs
      | some r =>
        rw [hr] at hs
        dsimp only at hs
        cases hq : Nat.blt i 512 with
        | false => rw [hq] at hs; cases hs
        | true =>
          rw [hq, cond_true] at hs
          injection hs with hs; subst hs
          have hi := blt_lt hq
          have h1 : svF (a L) (fun v => (w512 SV i).put v f fun f => r L f k) = true := h
          rw [svF_eq, w512_put hi] at h1
          obtain ⟨f', h2, h3, h4⟩ := agOf_ok l (i + 1) r hr L t _ k hL hn h1
          refine ⟨f', h2, Laid.cons hi (accOf_ok ha L t hL hn) h3, .inr ?_⟩
          simp only [List.length_cons]
          rcases h4 with rfl | h4
          · simp only [List.length_nil]; omega
          · omega
theorem ahOf_ok : ∀ (l : List Operand) (s : Ah), ahOf gl n l = some s → ∀ L t i f k, SlR L t → n ≤ t.size → s L i f k = true → ∃ f', k (i + l.length) f' = true ∧ Laid (l.map (ev t)) i f f' ∧ (l = [] ∨ i + l.length ≤ 512)
  | [], s, hs, L, t, i, f, k, hL, hn, h => by
    injection hs with hs; subst hs
    exact ⟨f, h, Laid.nil, .inl rfl⟩
  | x :: l, s, hs, L, t, i, f, k, hL, hn, h => by
    unfold ahOf at hs
    cases ha : accOf gl n x with
    | none => rw [ha] at hs; cases hs
    | some a =>
      rw [ha] at hs
      cases hr : ahOf gl n l with
      | none => rw [hr] at hs; cases hs
      | some r =>
        rw [hr] at hs
        injection hs with hs; subst hs
        obtain ⟨hq, h1⟩ := ifK_true (show ifK (Nat.blt i 512) _ bad = true from h)
        have hi := blt_lt hq
        rw [svF_eq, w512_put hi] at h1
        obtain ⟨f', h2, h3, h4⟩ := ahOf_ok l r hr L t (i + 1) _ k hL hn h1
        refine ⟨f', by rw [List.length_cons, show i + (l.length + 1) = i + 1 + l.length by omega]; exact h2, Laid.cons hi (accOf_ok ha L t hL hn) h3, .inr ?_⟩
        simp only [List.length_cons]
        rcases h4 with rfl | h4
        · simp only [List.length_nil]; omega
        · omega
theorem argsL_ok : ∀ (l : List Value) (i : Nat) (f : Sl) (k : Nat → Sl → R), argsL l i f k = true → ∃ f', k (i + l.length) f' = true ∧ Laid l i f f' ∧ (l = [] ∨ i + l.length ≤ 512)
  | [], i, f, k, h => ⟨f, h, Laid.nil, .inl rfl⟩
  | v :: l, i, f, k, h => by
    obtain ⟨hq, h1⟩ := ifK_true (show ifK (Nat.blt i 512) (svV v fun v => (w512 SV i).put v f fun f => num (Nat.succ i) fun i => argsL l i f k) bad = true from h)
    have hi := blt_lt hq
    obtain ⟨s, hs, h2⟩ := svV_true h1
    rw [w512_put hi] at h2
    obtain ⟨f', h3, h4, h5⟩ := argsL_ok l (i + 1) _ k h2
    refine ⟨f', by rw [List.length_cons, show i + (l.length + 1) = i + 1 + l.length by omega]; exact h3, Laid.cons hi hs h4, .inr ?_⟩
    simp only [List.length_cons]
    rcases h5 with rfl | h5
    · simp only [List.length_nil]; omega
    · omega
theorem hasB_spec {g : FuncId} (h : hasB P g = true) : ∃ fn, P.funcs[g]? = some fn ∧ fn.body.isSome = true := by
  unfold hasB at h
  cases hq : Nat.blt g yB with
  | false => rw [hq] at h; cases h
  | true =>
    rw [hq, cond_true] at h
    cases hf : P.funcs[g]? with
    | none => rw [hf] at h; cases h
    | some fn => rw [hf] at h; exact ⟨fn, rfl, h⟩
theorem hasB_lt {g : FuncId} (h : hasB P g = true) : g < yB := by
  unfold hasB at h
  cases hq : Nat.blt g yB with
  | false => rw [hq] at h; cases h
  | true => exact blt_lt hq
theorem opA_call {f : Operand} {args : Array Operand} {ts : Array TypeId} {t : Operand → Value} {A : AW} {g : FuncId} {fs cs : Array Value} (hk : okOp ⟨dst, .call ⟨.value f, args, ts⟩, ty, pos, after, guard⟩ = true) (hf : t f = .func (.func g) fs cs) (hb : hasB P g = true) :
    opA P t ⟨dst, .call ⟨.value f, args, ts⟩, ty, pos, after, guard⟩ A = some (.enter g (fs ++ evs t args ++ cs), A) := by
  obtain ⟨fn, h1, h2⟩ := hasB_spec hb
  unfold opA
  rw [hk, cond_true]
  dsimp only
  rw [hf]
  dsimp only
  rw [h1]
  dsimp only
  rw [h2]
  rfl
theorem rCallF_ok {g : FuncId} {args : Array Operand} {ts : Array TypeId} {s : Ag} (hs : agOf gl n args.toList 0 = some s) (hb : hasB P g = true) (hk : okOp ⟨dst, .call ⟨.value (.func g), args, ts⟩, ty, pos, after, guard⟩ = true) : LOk P B w0 n ⟨dst, .call ⟨.value (.func g), args, ts⟩, ty, pos, after, guard⟩ (rCallF g s) := by
  intro rec L F k t A hR h1 h2 hM h
  obtain ⟨f', h3, h4, h5⟩ := agOf_ok _ _ _ hs L t slots0 _ h1 h2 h
  rw [opA_call hk (show ev t (.func g) = .func (.func g) #[] #[] from rfl) hb]
  refine hR.2.1 g f' F A _ k (hasB_lt hb) (h4.arg ?_ ?_) hM h3
  · rw [List.length_map]
    rcases h5 with h5 | h5
    · rw [h5]; simp
    · omega
  · simp [evs]
theorem callV_true {x : FV} {kf : FuncId → List Value → List Value → R} {ky : Nat → R} (h : callV x kf ky = true) : (∃ g f c, x = .fn g f c ∧ kf g f c = true) ∨ ∃ b fs cs, x = .val (.func (.yield b) fs cs) ∧ ky b = true := by
  cases x with
  | fn g f c => exact .inl ⟨g, f, c, rfl, h⟩
  | val v =>
    have h : yldV v ky = true := h
    unfold yldV at h
    split at h
    · exact .inr ⟨_, _, _, rfl, h⟩
    · exact not_bad h
  | _ => exact not_bad h
theorem lenN_eq : ∀ (l : List Nat), lenN l = l.length
  | [] => rfl
  | _ :: l => by
    show Nat.succ (lenN l) = _
    rw [lenN_eq l]
    rfl
theorem rCallV_ok {f : Operand} {a : Acc} {args : Array Operand} {ts : Array TypeId} {s : Ah} (ha : AccOk n f a) (hs : ahOf gl n args.toList = some s) (hk : okOp ⟨dst, .call ⟨.value f, args, ts⟩, ty, pos, after, guard⟩ = true) : LOk P B w0 n ⟨dst, .call ⟨.value f, args, ts⟩, ty, pos, after, guard⟩ (rCallV P a s) := by
  intro rec L F k t A hR h1 h2 hM h
  obtain ⟨v, h3, h4⟩ := valK_true h
  rcases callV_true h4 with ⟨g, fs, cs, rfl, h4⟩ | ⟨b, fs, cs, rfl, h4⟩
  rotate_left
  · obtain ⟨f2, h7, q2, r2⟩ := ahOf_ok _ _ hs L t _ _ _ h1 h2 h4
    obtain ⟨hb, L0, n0, ps, a0, c0, st, pend, h8, h9⟩ := lpK_true h7
    obtain ⟨q3, h10⟩ := ifK_true h9
    obtain ⟨tmps, q4, q5, q6⟩ := hM.loop hb h8
    have e1 : ev t f = .func (.yield b) fs cs := (ha L t h1 h2).symm.trans (by rw [h3]; rfl)
    have hsz : args.size = ps.length := by
      have := beq_eq q3
      rw [lenN_eq, Nat.zero_add, Array.length_toList] at this
      exact this
    have hop : opA P (ev t) ⟨dst, .call ⟨.value f, args, ts⟩, ty, pos, after, guard⟩ A = some (.round b ((ps.toArray.zip (evs (ev t) args)).foldl (fun tmps (p, a) => tmps.setIfInBounds p a) tmps) a0 c0, A) := by
      unfold opA
      rw [hk, cond_true]
      dsimp only
      rw [e1]
      dsimp only
      rw [q4]
      show (bif Nat.beq args.size (Array.size ⟨ps⟩) then _ else none) = _
      rw [show Nat.beq args.size (Array.size ⟨ps⟩) = true from Tr.beq_iff.2 (by rw [hsz]; rfl)]
      rfl
    rw [hop]
    dsimp only
    have hl : Laid (args.toList.map (ev t)) 0 slots0 f2 := q2
    have harg : ArgR f2 (evs (ev t) args) := hl.arg (by
      rw [List.length_map]
      rcases r2 with r | r
      · rw [r]; simp
      · omega) (by simp [evs])
    exact hR.2.2.1 b f2 F A (evs (ev t) args) k (recOf tmps ps a0 c0 st pend) hb harg hM q4 (by simp [evs, recOf, hsz]) h10
  obtain ⟨hb, h5⟩ := ifK_true h4
  obtain ⟨f1, h6, q1, r1⟩ := argsL_ok _ _ _ _ h5
  obtain ⟨f2, h7, q2, r2⟩ := ahOf_ok _ _ hs L t _ _ _ h1 h2 h6
  obtain ⟨f3, h8, q3, r3⟩ := argsL_ok _ _ _ _ h7
  have e1 : ev t f = .func (.func g) ⟨fs⟩ ⟨cs⟩ := (ha L t h1 h2).symm.trans (by rw [h3]; rfl)
  rw [opA_call hk e1 hb]
  have hl : Laid (fs ++ args.toList.map (ev t) ++ cs) 0 slots0 f3 := (q1.trans q2).trans (by rw [List.length_append, List.length_map]; rw [← Nat.add_assoc]; exact q3)
  refine hR.2.1 g f3 F A _ k (hasB_lt hb) (hl.arg ?_ ?_) hM h8
  · simp only [List.length_append, List.length_map]
    have b1 : fs.length ≤ 512 := by rcases r1 with r | r; · rw [r]; simp
                                    · omega
    have b2 : fs.length + args.toList.length ≤ 512 := by
      rcases r2 with r | r
      · rw [r]; simp only [List.length_nil]; omega
      · omega
    rcases r3 with r | r
    · rw [r]; simp only [List.length_nil]; omega
    · omega
  · simp [evs]
end
end
end Go.Proofs.YtfeppmhcpfccfaaGreatDoor.Fast
/- A fast evaluator, part K: append; parts of strings. Of no program. -/
namespace Go.Proofs.YtfeppmhcpfccfaaGreatDoor.Fast
open Go Go.RowKit Go.Proofs.YtfeppmhcpfccfaaGreatDoor.Sim
noncomputable section
section
variable {P : Program} {B : Nat} {w0 : Base} {n : Nat} {gl : Nat → Bool} {dst : Option Tmp} {ty : TypeId} {pos : String} {after : Array Edge} {guard : Option (Nat × Bool)}
/-- so many cells of rows, from row i on -/
def cellsL (rows : Rows) (esz o m : Nat) : List Value := (List.range m).map fun p => (cellAt rows esz (o + p)).up
theorem cellsL_len (rows : Rows) (esz o m : Nat) : (cellsL rows esz o m).length = m := by simp [cellsL]
theorem cellsL_get (rows : Rows) (esz o m p : Nat) : (cellsL rows esz o m)[p]? = if p < m then some (cellAt rows esz (o + p)).up else none := by
  unfold cellsL
  rw [List.getElem?_map]
  by_cases h : p < m
  · rw [List.getElem?_range h, if_pos h]; rfl
  · rw [List.getElem?_eq_none (by simp; omega), if_neg h]; rfl
theorem cellsL_one (rows : Rows) (esz o m : Nat) : (cellsL rows esz o m).all oneB = true := by
  rw [List.all_eq_true]
  intro v hv
  unfold cellsL at hv
  obtain ⟨p, _, rfl⟩ := List.mem_map.1 hv
  exact up_one _
theorem Blk.cellsL {A : AW} {b : Nat} {rows : Rows} {m esz : Nat} {e : TypeId} {fam ro : Bool} {c : Array Value} (h : Blk A b rows m esz e fam ro c) {o k : Nat} (hm : o + k ≤ m * esz) : cellsA A b o k = some (Fast.cellsL rows esz o k) :=
  h.cells hm (cellsL_len ..) fun p hp => by rw [cellsL_get, if_pos hp]
/-- rows that were copied -/
theorem copied {rows rows2 r : Rows} {esz i2 k m : Nat} (h0 : 0 < esz) (hk : k + m ≤ 512) (hr : ∀ p, p < 512 → Lw.get p r = if k ≤ p ∧ p < k + m then Lw.get (i2 + (p - k)) rows2 else Lw.get p rows) {j : Nat} (hj : j < (k + m) * esz) :
    cellAt r esz j = if j < k * esz then cellAt rows esz j else cellAt rows2 esz (i2 * esz + (j - k * esz)) := by
  have hd := div_lt_of hj
  have hm := Nat.mod_lt j h0
  have hdm : j / esz * esz + j % esz = j := by rw [Nat.mul_comm]; exact Nat.div_add_mod j esz
  unfold cellAt
  rw [hr _ (by omega)]
  by_cases hq : j < k * esz
  · have : j / esz < k := Nat.div_lt_of_lt_mul (by rw [Nat.mul_comm]; exact hq)
    rw [if_neg (by omega), if_pos hq]
  · have hkd : k ≤ j / esz := (Nat.le_div_iff_mul_le h0).2 (by omega)
    rw [if_pos ⟨hkd, hd⟩, if_neg hq]
    have e : i2 * esz + (j - k * esz) = (i2 + (j / esz - k)) * esz + j % esz := by
      rw [Nat.add_mul, Nat.sub_mul]
      have := Nat.mul_le_mul_right esz hkd
      omega
    rw [e, div_of hm, mod_of hm]
theorem copied_rest {rows rows2 r : Rows} {esz i2 k m N : Nat} (h0 : 0 < esz) (hN : N ≤ 512) (hr : ∀ p, p < 512 → Lw.get p r = if k ≤ p ∧ p < k + m then Lw.get (i2 + (p - k)) rows2 else Lw.get p rows) {j : Nat} (hj : ¬ j < (k + m) * esz) (hjN : j < N * esz) : cellAt r esz j = cellAt rows esz j := by
  have hd := div_lt_of hjN
  have hkd : k + m ≤ j / esz := (Nat.le_div_iff_mul_le h0).2 (by omega)
  unfold cellAt
  rw [hr _ (by omega), if_neg (by omega)]
theorem growF_true {e : TypeId} {esz : Nat} {rows : Rows} {m : Nat} {F : FM} {k : SV → FM → R} {A : AW} {l : List Value} (hM : MR F A) (h0 : 0 < esz) (h1 : esz ≤ 64) (hl : l.length = m * esz) (hc : ∀ j, j < m * esz → l[j]? = some (cellAt rows esz j).up) (h : growF e esz rows m F k = true) :
    ∃ v A', growA A e l m = some (v, A') ∧ Post k v A' := by
  obtain ⟨h2, h3⟩ := ifK_true h
  obtain ⟨h4, h5⟩ := newF_true h3
  refine ⟨_, _, by unfold growA; rw [hM.room h4]; rfl, _, _, ?_, hM.add h4 (.blk h0 h1 (Nat.le_of_ble_eq_true h2) (by simpa using hl) (fun j hj => by rw [List.getElem?_toArray]; exact hc j hj)), h5⟩
  rw [hM.next]
  rfl
theorem keepS_true {s : SV} {F : FM} {k : SV → FM → R} (h : keepS s F k = true) : ∃ a m c, s.up = .slice a m c ∧ Nat.ble m c = true ∧ k s F = true := by
  rcases slcK_true h with ⟨m, c, rfl, h2⟩ | ⟨b, o, m, c, rfl, h2⟩
  · obtain ⟨h3, h4⟩ := ifK_true h2
    exact ⟨_, _, _, rfl, h3, h4⟩
  · obtain ⟨h3, h4⟩ := ifK_true h2
    exact ⟨_, _, _, rfl, h3, h4⟩
theorem slc3_true {x : SV} {k0 : Nat → Nat → R} {k : Nat → Nat → Nat → Nat → R} {kc : Nat → Nat → Nat → R} (h : slc3 x k0 k kc = true) : (∃ n c, x = .val (.nilS n c) ∧ k0 n c = true) ∨ (∃ b o n c, x = .val (.slc b o n c) ∧ k b o n c = true) ∨ ∃ b o n c, x = .val (.val (.slice (some ⟨b, o, some 0⟩) n c)) ∧ kc b o n = true := by
  obtain ⟨v, rfl, h⟩ := valK_true h
  cases v with
  | nilS n c => exact .inl ⟨_, _, rfl, h⟩
  | slc b o n c => exact .inr (.inl ⟨_, _, _, _, rfl, h⟩)
  | val v =>
    have h : clpV v kc = true := h
    unfold clpV at h
    split at h
    · exact .inr (.inr ⟨_, _, _, _, rfl, h⟩)
    · exact not_bad h
  | _ => exact not_bad h
theorem rClip_ok {s e : TypeId} {x hi mx : Operand} {a : Acc} {h' m' : Bo} {it : TypeInfo} (hu : P.underlying s = some (.slice e)) (hi' : P.info? e = some it) (ha : AccOk n x a) (hh : boOf gl n (some hi) = some h') (hm : boOf gl n (some mx) = some m') (hk : okOp ⟨dst, .slice s x none (some hi) (some mx), ty, pos, after, guard⟩ = true) :
    LOk P B w0 n ⟨dst, .slice s x none (some hi) (some mx), ty, pos, after, guard⟩ (rClip a h' m') := by
  intro rec L F k t A hR h1 h2 hM h
  have fin : ∀ {v : Value}, clipA P s (ev t x) (ev t hi) (ev t mx) A = some v → Post k v A → (match opA P (ev t) ⟨dst, .slice s x none (some hi) (some mx), ty, pos, after, guard⟩ A with
      | some (.val v, A') => Post k v A'
      | some (.skip, A') => Post k undef A'
      | some (.enter f args, A') => CallS P B w0 f args A' (Post k)
      | some (.round b tmps a c, A') => RoundW P B w0 b tmps a c A' (Post k)
      | none => NextK (ev t) ⟨dst, .slice s x none (some hi) (some mx), ty, pos, after, guard⟩ A (Post k)) := by
    intro v hc hp
    have hop : opA P (ev t) ⟨dst, .slice s x none (some hi) (some mx), ty, pos, after, guard⟩ A = some (.val v, A) := by
      unfold opA
      rw [hk, cond_true]
      dsimp only
      rw [hc]
    rw [hop]
    exact hp
  rcases slcK_true h with ⟨m, c, h3, h4⟩ | ⟨b, o, m, c, h3, h4⟩
  · have e1 : ev t x = .slice none m c := (ha L t h1 h2).symm.trans (by rw [h3]; rfl)
    obtain ⟨i, g1, g2⟩ := boOf_ok hh h1 h2 h4
    obtain ⟨j, g3, g4⟩ := boOf_ok hm h1 h2 g2
    obtain ⟨g5, g6⟩ := ifK_true g4
    have g1' : natOf (some (ev t hi)) 0 = some i := g1
    have g3' : natOf (some (ev t mx)) 0 = some j := g3
    refine fin (v := .slice none m m) ?_ ⟨_, F, rfl, hM, g6⟩
    unfold clipA
    rw [hu, e1]
    dsimp only
    rw [hi', g1', g3']
    dsimp only
    rw [g5]
    rfl
  · have e1 : ev t x = .slice (some ⟨b, o, none⟩) m c := (ha L t h1 h2).symm.trans (by rw [h3]; rfl)
    obtain ⟨i, g1, g2⟩ := boOf_ok hh h1 h2 h4
    obtain ⟨j, g3, g4⟩ := boOf_ok hm h1 h2 g2
    obtain ⟨g5, g6⟩ := ifK_true g4
    have g1' : natOf (some (ev t hi)) 0 = some i := g1
    have g3' : natOf (some (ev t mx)) 0 = some j := g3
    obtain ⟨hb, rows, m2, esz, e', fam, ro, g7, g8⟩ := blkK_true g6
    obtain ⟨cc, hc⟩ := hM.at hb g7
    have key : ∀ v, (bif fam then (bif Nat.blt 0 m then some (Value.slice (some ⟨b, o, some 0⟩) m m) else none) else some (.slice (some ⟨b, o, none⟩) m m)) = some v → clipA P s (ev t x) (ev t hi) (ev t mx) A = some v := by
      intro v hv
      unfold clipA
      rw [hu, e1]
      dsimp only
      rw [hi', g1', g3']
      dsimp only
      rw [g5, cond_true, hc.get]
      exact hv
    cases fam with
    | true =>
      obtain ⟨g9, g10⟩ := ifK_true (show ifK (Nat.blt 0 m) _ bad = true from g8)
      exact fin (key _ (by rw [g9]; rfl)) ⟨_, F, rfl, hM, g10⟩
    | false =>
      have g9 : k (.val (.slc b o m m)) F = true := g8
      exact fin (key _ rfl) ⟨_, F, rfl, hM, g9⟩
/-- .. rows behind what is there -/
theorem appT_ok {sf : Bool} {e : TypeId} {x : Operand} {a : Acc} {it : TypeInfo} {z : Value} (hzs : z.cells.size = it.size) (hpos : 0 < it.size) (h64 : it.size ≤ 64)
    (ha : AccOk n x a) {L : Sl} {F : FM} {k : SV → FM → R} {t : Array Value} {A : AW} (h1 : SlR L t) (h2 : n ≤ t.size) (hM : MR F A) {q i2 o2 n2 : Nat} {rows2 : Rows}
    (c2h2 : n2 ≤ 512) (g5' : i2 + q ≤ n2) (ho2 : i2 * it.size = o2) {X : Option (Value × AW)} {G : Prop}
    (hap : ∀ {sb m c}, ev t x = .slice sb m c → (Nat.beq z.cells.size it.size && Nat.blt 0 it.size && Nat.ble ((m + q) * it.bytes) 1099511627776 && Nat.ble (m + q) 1099511627776) = true → X = appendB sf e it (.slice sb m c) q (cellsL rows2 it.size o2 (q * it.size)) A)
    (goal : ∀ {v A'}, X = some (v, A') → Post k v A' → G) (g6 : appT sf e it.size it.bytes q i2 rows2 (a L) F k = true) : G := by
  rcases slc3_true g6 with ⟨m, c, h5, h6⟩ | ⟨b, o, m, c, h5, h6⟩ | ⟨b, o, m, c, h5, h6⟩
  · -- onto nothing
    have e1 : ev t x = .slice none m c := (ha L t h1 h2).symm.trans (by rw [h5]; rfl)
    obtain ⟨h7, h8⟩ := ifK_true h6
    rw [Bool.and_eq_true, Bool.and_eq_true, Bool.and_eq_true] at h7
    obtain ⟨⟨⟨r1, r2⟩, r3⟩, r4⟩ := h7
    have r1' := beq_eq r1
    have r3' : q * it.bytes ≤ 1099511627776 := Nat.le_of_ble_eq_true r3
    have r4' : q ≤ 512 := Nat.le_of_ble_eq_true r4
    subst r1'
    obtain ⟨r, s1, s2⟩ := copyR_true q i2 0 rows2 rows0 _ (by omega) (by omega) h8
    obtain ⟨v, A', s3, s4⟩ := growF_true (l := cellsL rows2 it.size o2 (q * it.size)) hM hpos h64 (cellsL_len ..) (fun j hj => by
      rw [cellsL_get, if_pos hj, copied (k := 0) hpos (by omega) s2 (by rw [Nat.zero_add]; exact hj), if_neg (by omega), ho2, Nat.zero_mul, Nat.sub_zero]) s1
    refine goal ?_ s4
    have hcond : (Nat.beq z.cells.size it.size && Nat.blt 0 it.size && Nat.ble ((0 + q) * it.bytes) 1099511627776 && Nat.ble (0 + q) 1099511627776) = true := by
      rw [Bool.and_eq_true, Bool.and_eq_true, Bool.and_eq_true, Nat.zero_add]
      exact ⟨⟨⟨Tr.beq_iff.2 hzs, Nat.ble_eq_true_of_le hpos⟩, r3⟩, Nat.ble_eq_true_of_le (by omega)⟩
    rw [hap e1 hcond]
    show (bif Nat.beq 0 0 && Nat.beq c 0 then growA A e _ q else none) = _
    rw [r2]
    exact s3
  · have e1 : ev t x = .slice (some ⟨b, o, none⟩) m c := (ha L t h1 h2).symm.trans (by rw [h5]; rfl)
    obtain ⟨hb1, rows, n1, esz1, e1t, fam, ro, h7, h8⟩ := blkK_true h6
    obtain ⟨cc, hc⟩ := hM.at hb1 h7
    obtain ⟨h9, h10⟩ := ifK_true h8
    rw [Bool.and_eq_true, Bool.and_eq_true] at h9
    obtain ⟨⟨r0, r1⟩, r2⟩ := h9
    have hro : ro = false := by cases ro <;> first | rfl | cases r0
    subst hro
    have r1' := beq_eq r1
    have r2' := (beq_eq r2).symm
    subst r1' r2'
    obtain ⟨h11, h12⟩ := ifK_true (show ifK (Nat.ble (Nat.mul (Nat.add m q) it.bytes) big && Nat.ble (Nat.add m q) 512) _ bad = true from h10)
    rw [Bool.and_eq_true] at h11
    have r4' : m + q ≤ 512 := Nat.le_of_ble_eq_true h11.2
    have hcond : (Nat.beq z.cells.size it.size && Nat.blt 0 it.size && Nat.ble ((m + q) * it.bytes) 1099511627776 && Nat.ble (m + q) 1099511627776) = true := by
      rw [Bool.and_eq_true, Bool.and_eq_true, Bool.and_eq_true]
      exact ⟨⟨⟨Tr.beq_iff.2 hzs, Nat.ble_eq_true_of_le hpos⟩, h11.1⟩, Nat.ble_eq_true_of_le (by omega)⟩
    have hB : X = appendB sf e it (.slice (some ⟨b, o, none⟩) m c) q (cellsL rows2 it.size o2 (q * it.size)) A := by
      exact hap e1 hcond
    have hBB : ∀ (Y : Option (Value × AW)), (bif Nat.ble (m + q) c then
        bif Nat.beq o 0 && Nat.ble ((m + q) * it.size) cc.size then
          some (Value.slice (some ⟨b, 0, none⟩) (m + q) c, A.put b (some ⟨.cells (cc.toList.take (m * it.size) ++ cellsL rows2 it.size o2 (q * it.size) ++ cc.toList.drop (m * it.size + (cellsL rows2 it.size o2 (q * it.size)).length)).toArray e (0, 0), fam, false⟩))
        else none
      else match cellsA A b o (m * it.size) with
        | some olds => bif fam then (bif Nat.beq o 0 || sf then growA (A.put b none) e (olds ++ cellsL rows2 it.size o2 (q * it.size)) (m + q) else none) else growA A e (olds ++ cellsL rows2 it.size o2 (q * it.size)) (m + q)
        | none => none) = Y → X = Y := by
      intro Y hY
      rw [hB, ← hY]
      unfold appendB
      simp only [hc.get, Nat.beq_refl, cond_true]
      rfl
    have hc2' := hc.h2
    cases hfit : Nat.ble (Nat.add m q) c with
    | true =>
      rw [hfit] at h12
      obtain ⟨s1, s2⟩ := ifK_true (show ifK (Nat.beq o 0 && Nat.ble (Nat.add m q) n1) _ bad = true from h12)
      rw [Bool.and_eq_true] at s1
      have s1' : m + q ≤ n1 := Nat.le_of_ble_eq_true s1.2
      obtain ⟨r, s3, s4⟩ := copyR_true _ _ _ _ _ _ (by omega) (by omega) s2
      have s5 := putF_true hb1 s3
      have hmq : (m + q) * it.size ≤ n1 * it.size := Nat.mul_le_mul_right _ s1'
      rw [Nat.add_mul] at hmq
      have hlt : cc.toList.length = n1 * it.size := by rw [Array.length_toList]; exact hc.size
      refine goal (hBB _ ?_) ⟨.val (.slc b 0 (m + q) c), _, rfl, hM.putA hb1 (.blk (c := (cc.toList.take (m * it.size) ++ cellsL rows2 it.size o2 (q * it.size) ++ cc.toList.drop (m * it.size + (cellsL rows2 it.size o2 (q * it.size)).length)).toArray) (rows := r) (n := n1) (esz := it.size) (e := e) (fam := fam) (ro := false) hpos h64 hc2' ?_ ?_), s5⟩
      · rw [show Nat.ble (m + q) c = true from hfit, cond_true]
        have : (Nat.beq o 0 && Nat.ble ((m + q) * it.size) cc.size) = true := by
          rw [Bool.and_eq_true, hc.size]
          exact ⟨s1.1, Nat.ble_eq_true_of_le (Nat.mul_le_mul_right _ s1')⟩
        rw [this, cond_true]
        rfl
      · simp only [List.size_toArray, List.length_append, List.length_take, List.length_drop, cellsL_len, hlt]
        omega
      · intro j hj
        rw [List.getElem?_toArray]
        by_cases j1 : j < m * it.size
        · rw [List.getElem?_append_left (by simp only [List.length_append, List.length_take, cellsL_len, hlt]; omega), List.getElem?_append_left (by simp only [List.length_take, hlt]; omega), List.getElem?_take_of_lt j1, Array.getElem?_toList, hc.cell j hj,
            copied hpos r4' s4 (by rw [Nat.add_mul]; omega), if_pos j1]
        · by_cases j2 : j < (m + q) * it.size
          · have j2' := j2
            rw [Nat.add_mul] at j2'
            rw [List.getElem?_append_left (by simp only [List.length_append, List.length_take, cellsL_len, hlt]; omega), List.getElem?_append_right (by simp only [List.length_take, hlt]; omega), List.length_take, hlt, Nat.min_eq_left (by omega), cellsL_get, if_pos (by omega),
              copied hpos r4' s4 j2, if_neg j1, ho2]
          · have j2' := j2
            rw [Nat.add_mul] at j2'
            rw [List.getElem?_append_right (by simp only [List.length_append, List.length_take, cellsL_len, hlt]; omega)]
            simp only [List.length_append, List.length_take, cellsL_len, hlt]
            rw [Nat.min_eq_left (by omega), List.getElem?_drop, Array.getElem?_toList, show m * it.size + q * it.size + (j - (m * it.size + q * it.size)) = j by omega, hc.cell j hj, copied_rest hpos hc2' s4 j2 hj]
    | false =>
      rw [hfit] at h12
      have h13 : ifK (Nat.beq o 0 && Nat.ble m n1) (ifK fam (copyR q i2 m rows2 rows fun rows => putF b .no F fun F => growF e it.size rows (m + q) F k) (copyR q i2 m rows2 rows fun rows => growF e it.size rows (m + q) F k))
          (ifK (aligned o it.size && (Bool.not fam || sf)) (num (Nat.div o it.size) fun i => ifK (Nat.ble (Nat.add i m) n1) (copyR m i 0 rows rows0 fun rows => copyR q i2 m rows2 rows fun rows => ifK fam (putF b .no F fun F => growF e it.size rows (m + q) F k) (growF e it.size rows (m + q) F k)) bad) bad) = true := h12
      cases hz0 : (Nat.beq o 0 && Nat.ble m n1) with
      | true =>
        rw [hz0] at h13
        rw [Bool.and_eq_true] at hz0
        have ho := beq_eq hz0.1
        have hmn : m ≤ n1 := Nat.le_of_ble_eq_true hz0.2
        subst ho
        have hmn' := Nat.mul_le_mul_right it.size hmn
        have holds : cellsA A b 0 (m * it.size) = some (cellsL rows it.size 0 (m * it.size)) := hc.cellsL (by omega)
        have grown : ∀ {r : Rows} {F2 : FM} {A2 : AW}, MR F2 A2 → (∀ p, p < 512 → Lw.get p r = if m ≤ p ∧ p < m + q then Lw.get (i2 + (p - m)) rows2 else Lw.get p rows) → growF e it.size r (m + q) F2 k = true → ∃ v A', growA A2 e (cellsL rows it.size 0 (m * it.size) ++ cellsL rows2 it.size o2 (q * it.size)) (m + q) = some (v, A') ∧ Post k v A' := by
          intro r F2 A2 hM2 hr hg
          refine growF_true hM2 hpos h64 (by rw [List.length_append, cellsL_len, cellsL_len, Nat.add_mul]) (fun j hj => ?_) hg
          rw [copied hpos r4' hr hj]
          have hj' := hj
          rw [Nat.add_mul] at hj'
          by_cases j1 : j < m * it.size
          · rw [List.getElem?_append_left (by rw [cellsL_len]; exact j1), cellsL_get, if_pos j1, if_pos j1, Nat.zero_add]
          · rw [List.getElem?_append_right (by rw [cellsL_len]; omega), cellsL_len, cellsL_get, if_pos (by omega), if_neg j1, ho2]
        cases fam with
        | true =>
          obtain ⟨r, s3, s4⟩ := copyR_true _ _ _ _ _ _ (by omega) (by omega) (show copyR q i2 m rows2 rows _ = true from h13)
          have s5 := putF_true hb1 s3
          obtain ⟨v, A', s6, s7⟩ := grown (hM.putA hb1 (.no none)) s4 s5
          refine goal (hBB _ ?_) s7
          rw [show Nat.ble (m + q) c = false from hfit, cond_false, holds]
          exact s6
        | false =>
          obtain ⟨r, s3, s4⟩ := copyR_true _ _ _ _ _ _ (by omega) (by omega) (show copyR q i2 m rows2 rows _ = true from h13)
          obtain ⟨v, A', s6, s7⟩ := grown hM s4 s3
          refine goal (hBB _ ?_) s7
          rw [show Nat.ble (m + q) c = false from hfit, cond_false, holds]
          exact s6
      | false =>
        rw [hz0] at h13
        obtain ⟨h14, h15⟩ := ifK_true (show ifK (aligned o it.size && (Bool.not fam || sf)) _ bad = true from h13)
        rw [Bool.and_eq_true] at h14
        have hal : o % it.size = 0 := beq_eq h14.1
        obtain ⟨h16, h17⟩ := ifK_true (show ifK (Nat.ble (Nat.add (Nat.div o it.size) m) n1) _ bad = true from h15)
        have h16' : o / it.size + m ≤ n1 := Nat.le_of_ble_eq_true h16
        have hoo : o / it.size * it.size = o := by
          have := Nat.div_add_mod o it.size
          rw [Nat.mul_comm] at this
          omega
        have hbd := Nat.mul_le_mul_right it.size h16'
        rw [Nat.add_mul, hoo] at hbd
        obtain ⟨r1, s1, s2⟩ := copyR_true m (Nat.div o it.size) 0 rows rows0 _ (Nat.le_trans h16' hc2') (by omega) h17
        obtain ⟨r, s3, s4⟩ := copyR_true _ _ _ _ _ _ (by omega) (by omega) s1
        have holds : cellsA A b o (m * it.size) = some (cellsL rows it.size o (m * it.size)) := hc.cellsL hbd
        have grown : ∀ {F2 : FM} {A2 : AW}, MR F2 A2 → growF e it.size r (m + q) F2 k = true → ∃ v A', growA A2 e (cellsL rows it.size o (m * it.size) ++ cellsL rows2 it.size o2 (q * it.size)) (m + q) = some (v, A') ∧ Post k v A' := by
          intro F2 A2 hM2 hg
          refine growF_true hM2 hpos h64 (by rw [List.length_append, cellsL_len, cellsL_len, ← Nat.add_mul]) (fun j hj => ?_) hg
          rw [copied hpos r4' s4 hj]
          have hj' : j < (m + q) * it.size := hj
          rw [Nat.add_mul] at hj'
          by_cases j1 : j < m * it.size
          · rw [List.getElem?_append_left (by rw [cellsL_len]; exact j1), cellsL_get, if_pos j1, if_pos j1, copied (k := 0) hpos (by omega) s2 (by rw [Nat.zero_add]; exact j1), if_neg (by omega), (show Nat.div o it.size * it.size = o from hoo), Nat.zero_mul, Nat.sub_zero]
          · rw [List.getElem?_append_right (by rw [cellsL_len]; omega), cellsL_len, cellsL_get, if_pos (by omega), if_neg j1, ho2]
        cases fam with
        | true =>
          obtain ⟨v, A', s6, s7⟩ := grown (hM.putA hb1 (.no none)) (putF_true hb1 (show putF b .no F (fun F => growF e it.size r (m + q) F k) = true from s3))
          refine goal (hBB _ ?_) s7
          have hsf : sf = true := h14.2
          rw [show Nat.ble (m + q) c = false from hfit, cond_false, holds, hsf, Bool.or_true]
          exact s6
        | false =>
          obtain ⟨v, A', s6, s7⟩ := grown hM s3
          refine goal (hBB _ ?_) s7
          rw [show Nat.ble (m + q) c = false from hfit, cond_false, holds]
          exact s6
  · -- onto a slice that is cut to its length
    have e1 : ev t x = .slice (some ⟨b, o, some 0⟩) m c := (ha L t h1 h2).symm.trans (by rw [h5]; rfl)
    obtain ⟨hb1, rows, n1, esz1, e1t, fam, ro, h7, h8⟩ := blkK_true h6
    obtain ⟨cc, hc⟩ := hM.at hb1 h7
    obtain ⟨h9, h10⟩ := ifK_true h8
    rw [Bool.and_eq_true] at h9
    obtain rfl := beq_eq h9.1
    obtain ⟨h11, h12⟩ := ifK_true (show ifK (Nat.ble (Nat.mul (Nat.add m q) it.bytes) big && Nat.ble (Nat.add m q) 512) _ bad = true from h10)
    rw [Bool.and_eq_true] at h11
    have r4' : m + q ≤ 512 := Nat.le_of_ble_eq_true h11.2
    have hcond : (Nat.beq z.cells.size it.size && Nat.blt 0 it.size && Nat.ble ((m + q) * it.bytes) 1099511627776 && Nat.ble (m + q) 1099511627776) = true := by
      rw [Bool.and_eq_true, Bool.and_eq_true, Bool.and_eq_true]
      exact ⟨⟨⟨Tr.beq_iff.2 hzs, Nat.ble_eq_true_of_le hpos⟩, h11.1⟩, Nat.ble_eq_true_of_le (by omega)⟩
    have hal : o % it.size = 0 := beq_eq h9.2
    obtain ⟨h16, h17⟩ := ifK_true (show ifK (Nat.ble (Nat.add (Nat.div o it.size) m) n1) _ bad = true from h12)
    have h16' : o / it.size + m ≤ n1 := Nat.le_of_ble_eq_true h16
    have hc2' := hc.h2
    have hoo : o / it.size * it.size = o := by
      have := Nat.div_add_mod o it.size
      rw [Nat.mul_comm] at this
      omega
    have hbd := Nat.mul_le_mul_right it.size h16'
    rw [Nat.add_mul, hoo] at hbd
    obtain ⟨r1, s1, s2⟩ := copyR_true m (Nat.div o it.size) 0 rows rows0 _ (Nat.le_trans h16' hc2') (by omega) h17
    obtain ⟨r, s3, s4⟩ := copyR_true _ _ _ _ _ _ (by omega) (by omega) s1
    have holds : cellsA A b o (m * it.size) = some (cellsL rows it.size o (m * it.size)) := hc.cellsL hbd
    obtain ⟨v, A', s6, s7⟩ := growF_true (l := cellsL rows it.size o (m * it.size) ++ cellsL rows2 it.size o2 (q * it.size)) hM hpos h64 (by rw [List.length_append, cellsL_len, cellsL_len, ← Nat.add_mul]; rfl) (fun j hj => by
      rw [copied hpos r4' s4 hj]
      have hj' : j < (m + q) * it.size := hj
      rw [Nat.add_mul] at hj'
      by_cases j1 : j < m * it.size
      · rw [List.getElem?_append_left (by rw [cellsL_len]; exact j1), cellsL_get, if_pos j1, if_pos j1, copied (k := 0) hpos (by omega) s2 (by rw [Nat.zero_add]; exact j1), if_neg (by omega), (show Nat.div o it.size * it.size = o from hoo), Nat.zero_mul, Nat.sub_zero]
      · rw [List.getElem?_append_right (by rw [cellsL_len]; omega), cellsL_len, cellsL_get, if_pos (by omega), if_neg j1, ho2]) s3
    refine goal ?_ s7
    rw [hap e1 hcond]
    show (match cellsA A b o (m * it.size) with | some olds => growA A e (olds ++ cellsL rows2 it.size o2 (q * it.size)) (m + q) | none => none) = _
    rw [holds]
    exact s6
theorem rAppend_ok {s e : TypeId} {x y : Operand} {a a' : Acc} {args : Array Operand} {ts : Array TypeId} {it : TypeInfo} {z : Value} (hargs : args.toList = [x, y]) (hts : ts.toList = [s, s]) (hu : P.underlying s = some (.slice e)) (hi : P.info? e = some it) (hz : it.zero = some z) (hzs : z.cells.size = it.size) (hpos : 0 < it.size) (h64 : it.size ≤ 64)
    (ha : AccOk n x a) (hb : AccOk n y a') (hk : okOp ⟨dst, .call ⟨.builtin .append, args, ts⟩, ty, pos, after, guard⟩ = true) : LOk P B w0 n ⟨dst, .call ⟨.builtin .append, args, ts⟩, ty, pos, after, guard⟩ (rAppend (!byteE P e) e it.size it.bytes a a') := by
  intro rec L F k t A hR h1 h2 hM h
  have hopA : opA P (ev t) ⟨dst, .call ⟨.builtin .append, args, ts⟩, ty, pos, after, guard⟩ A = valA (appendA P ts (ev t x) (ev t y) A) := by
    unfold opA
    rw [hk, cond_true]
    dsimp only
    rw [hargs]
  have goal : ∀ {v A'}, appendA P ts (ev t x) (ev t y) A = some (v, A') → Post k v A' → (match opA P (ev t) ⟨dst, .call ⟨.builtin .append, args, ts⟩, ty, pos, after, guard⟩ A with
      | some (.val v, A') => Post k v A'
      | some (.skip, A') => Post k undef A'
      | some (.enter f args, A') => CallS P B w0 f args A' (Post k)
      | some (.round b tmps a c, A') => RoundW P B w0 b tmps a c A' (Post k)
      | none => NextK (ev t) ⟨dst, .call ⟨.builtin .append, args, ts⟩, ty, pos, after, guard⟩ A (Post k)) := by
    intro v A' he hp
    rw [hopA, he]
    exact hp
  have happ : ∀ {sb m c xb q d}, ev t x = .slice sb m c → ev t y = .slice xb q d → appendA P ts (ev t x) (ev t y) A = (bif Nat.beq q 0 then (bif Nat.ble m c then some (Value.slice sb m c, A) else none) else
          bif Nat.beq z.cells.size it.size && Nat.blt 0 it.size && Nat.ble ((m + q) * it.bytes) 1099511627776 && Nat.ble (m + q) 1099511627776 then
            match xb with
            | some ⟨b, o, none⟩ => match cellsA A b o (q * it.size) with
              | some news => bif news.all oneB then appendB (!byteE P e) e it (.slice sb m c) q news A else none
              | none => none
            | _ => none
          else none) := by
    intro sb m c xb q d e1 e2
    unfold appendA
    rw [hts]
    dsimp only
    rw [Nat.beq_refl, cond_true, e1, e2, hu]
    dsimp only
    rw [hi]
    dsimp only
    rw [hz]
    rfl
  have keep : ∀ {xb q d}, ev t y = .slice xb q d → Nat.beq q 0 = true → keepS (a L) F k = true → (match opA P (ev t) ⟨dst, .call ⟨.builtin .append, args, ts⟩, ty, pos, after, guard⟩ A with
      | some (.val v, A') => Post k v A'
      | some (.skip, A') => Post k undef A'
      | some (.enter f args, A') => CallS P B w0 f args A' (Post k)
      | some (.round b tmps a c, A') => RoundW P B w0 b tmps a c A' (Post k)
      | none => NextK (ev t) ⟨dst, .call ⟨.builtin .append, args, ts⟩, ty, pos, after, guard⟩ A (Post k)) := by
    intro xb q d e2 hq hks
    obtain ⟨sb, m, c, g1, g2, g3⟩ := keepS_true hks
    have e1 : ev t x = .slice sb m c := (ha L t h1 h2).symm.trans g1
    exact goal (by rw [happ e1 e2, hq, g2]; rfl) ⟨_, F, g1, hM, g3⟩
  rcases slcK_true (show slcK (a' L) _ _ = true from h) with ⟨q, d, h3, h4⟩ | ⟨b2, o2, q, d, h3, h4⟩
  · obtain ⟨h5, h6⟩ := ifK_true h4
    exact keep ((hb L t h1 h2).symm.trans (by rw [h3]; rfl)) h5 h6
  · have e2 : ev t y = .slice (some ⟨b2, o2, none⟩) q d := (hb L t h1 h2).symm.trans (by rw [h3]; rfl)
    cases hq : Nat.beq q 0 with
    | true => rw [hq] at h4; exact keep e2 hq h4
    | false =>
      rw [hq] at h4
      obtain ⟨hb2, rows2, n2, esz2, e2t, fam2, ro2, g1, g2⟩ := blkK_true (show blkK b2 F _ = true from h4)
      obtain ⟨c2, hc2⟩ := hM.at hb2 g1
      obtain ⟨g3, g4⟩ := ifK_true g2
      rw [Bool.and_eq_true] at g3
      have q1 := beq_eq g3.1
      have q2 : o2 % esz2 = 0 := by have : o2 % it.size = 0 := beq_eq g3.2; rw [q1]; exact this
      subst q1
      clear g3
      obtain ⟨g5, g6⟩ := ifK_true g4
      have g5' : o2 / it.size + q ≤ n2 := Nat.le_of_ble_eq_true g5
      have ho2 : o2 / it.size * it.size = o2 := by
        have := Nat.div_add_mod o2 it.size
        rw [Nat.mul_comm] at this
        omega
      have hbound : o2 + q * it.size ≤ n2 * it.size := by
        have := Nat.mul_le_mul_right it.size g5'
        rw [Nat.add_mul, ho2] at this
        exact this
      have hnews := hc2.cellsL hbound
      have hone := cellsL_one rows2 it.size o2 (q * it.size)
      obtain ⟨i2, hi2⟩ : ∃ i2, Nat.div o2 it.size = i2 := ⟨_, rfl⟩
      have hi3 : o2 / it.size = i2 := hi2
      rw [hi2] at g6
      rw [hi3] at g5' ho2
      clear hi2 hi3 g5 g4
      have c2h2 := hc2.h2
      refine appT_ok (e := e) (X := appendA P ts (ev t x) (ev t y) A) hzs hpos h64 ha h1 h2 hM c2h2 g5' ho2 (fun {sb m c} e1 hcond => ?_) goal g6
      rw [happ e1 e2, hq, cond_false, hcond, cond_true]
      dsimp only
      rw [hnews]
      dsimp only
      rw [hone, cond_true]
end
end
end Go.Proofs.YtfeppmhcpfccfaaGreatDoor.Fast
