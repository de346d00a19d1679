/- A fast evaluator, part S: walks over maps. Of no program. -/
import Derived.Test.YtnneooidkbhbeaaGreatDoorEvT
import Derived.Laws.RangeString
set_option linter.unusedVariables false
set_option linter.unusedSimpArgs false
namespace Go.Proofs.YtnneooidkbhbeaaGreatDoor.Fast
open Go Go.RowKit Go.Proofs.YtnneooidkbhbeaaGreatDoor.Sim
noncomputable section
section
variable {P : Program} {B : Nat} {w0 : Base} {n : Nat} {gl : Nat → Bool} {dst : Option Tmp} {ty : TypeId} {pos : String} {after : Array Edge} {guard : Option (Nat × Bool)}
theorem iterK_true {b : Nat} {F : FM} {k : Option Nat → Nat → List Nat → Nat → R} (h : iterK b F k = true) : b < 32768 ∧ ∃ m s l c, Lh.get b F.heap = .iter m s l c ∧ k m s l c = true := by
  obtain ⟨h1, h2⟩ := ifK_true h
  have hb := blt_lt h1
  refine ⟨hb, ?_⟩
  rw [w32768_get hb] at h2
  generalize (L32768 FO).get b F.heap = x at h2
  cases x with
  | no => exact not_bad h2
  | map es c => exact not_bad h2
  | iter m s l c => exact ⟨m, s, l, c, rfl, h2⟩
  | siter => exact not_bad h2
  | loop => exact not_bad h2
  | blk => exact not_bad h2
theorem MR.iter {F : FM} {A : AW} (h : MR F A) {b : Nat} (hb : b < 32768) {m : Option Nat} {s c : Nat} {l : List Nat} (hg : Lh.get b F.heap = .iter m s l c) : A.heap.get b = some ⟨.mapIter m s ⟨l⟩ c, false, false⟩ := by
  have := h.blk b hb
  rw [hg] at this
  generalize hy : A.heap.get b = y at this
  cases this with
  | iter => rfl
theorem rRange_ok {mt kt e : TypeId} {x : Operand} {a : Acc} (hu : P.underlying mt = some (.map kt e)) (ha : AccOk n x a) (hk : okOp ⟨dst, .range mt x, ty, pos, after, guard⟩ = true) : LOk P B w0 n ⟨dst, .range mt x, ty, pos, after, guard⟩ (rRange a) := by
  intro rec L F k t A hR h1 h2 hM h
  have fin : ∀ {m : Option Nat} {c : Nat}, rangeA P mt (ev t x) A = (bif A.room then some (.pointer (some ⟨A.next, 0, none⟩), A.add ⟨.mapIter m c #[] c, false, false⟩) else none) → newF (.iter m c [] c) F (fun r F => k (.val (.ptr r 0)) F) = true → (match opA P (ev t) ⟨dst, .range mt x, ty, pos, after, guard⟩ A with
      | some (.val v, A') => Post k v A'
      | some (.skip, A') => Post k undef A'
      | some (.enter f args, A') => CallS P B w0 f args A' (Post k)
      | some (.round b tmps a c, A') => RoundW P B w0 b tmps a c A' (Post k)
      | none => NextK (ev t) ⟨dst, .range mt x, ty, pos, after, guard⟩ A (Post k)) := by
    intro m c hr hn
    obtain ⟨h3, h4⟩ := newF_true hn
    have : opA P (ev t) ⟨dst, .range mt x, ty, pos, after, guard⟩ A = some (.val (.pointer (some ⟨A.next, 0, none⟩)), A.add ⟨.mapIter m c #[] c, false, false⟩) := by
      unfold opA
      rw [hk, cond_true]
      show valA (rangeA P mt (ev t x) A) = _
      rw [hr, hM.room h3]
      rfl
    rw [this]
    refine ⟨_, _, ?_, hM.add h3 (.iter m c [] c), h4⟩
    rw [hM.next]
    rfl
  rcases mpK_true h with ⟨h3, h4⟩ | ⟨b, h3, h4⟩
  · have e1 : ev t x = .map none := (ha L t h1 h2).symm.trans h3
    refine fin ?_ h4
    unfold rangeA
    rw [hu]
    dsimp only
    rw [e1]
  · have e1 : ev t x = .map (some b) := (ha L t h1 h2).symm.trans (by rw [h3]; rfl)
    obtain ⟨hb, es, c, h5, h6⟩ := mapK_true h4
    obtain ⟨cs, q1, q2⟩ := hM.map hb h5
    refine fin ?_ h6
    unfold rangeA
    rw [hu]
    dsimp only
    rw [e1]
    dsimp only
    rw [q1]
theorem siterK_true {b : Nat} {F : FM} {k : Nat → Nat → Nat → R} (h : siterK b F k = true) : b < 32768 ∧ ∃ n z p, Lh.get b F.heap = .siter n z p ∧ k n z p = true := by
  obtain ⟨h1, h2⟩ := ifK_true h
  have hb := blt_lt h1
  refine ⟨hb, ?_⟩
  rw [w32768_get hb] at h2
  generalize (L32768 FO).get b F.heap = x at h2
  cases x with
  | no => exact not_bad h2
  | map es c => exact not_bad h2
  | iter m s l c => exact not_bad h2
  | siter n z p => exact ⟨n, z, p, rfl, h2⟩
  | loop => exact not_bad h2
  | blk => exact not_bad h2
theorem MR.siter {F : FM} {A : AW} (h : MR F A) {b : Nat} (hb : b < 32768) {m z p : Nat} (hg : Lh.get b F.heap = .siter m z p) : A.heap.get b = some ⟨.stringIter (bytesOf m z) p, false, false⟩ := by
  have := h.blk b hb
  rw [hg] at this
  generalize hy : A.heap.get b = y at this
  cases this with
  | siter => rfl
theorem rRangeS_ok {st : TypeId} {x : Operand} {a : Acc} (hu : P.underlying st = some .string) (ha : AccOk n x a) (hk : okOp ⟨dst, .range st x, ty, pos, after, guard⟩ = true) : LOk P B w0 n ⟨dst, .range st x, ty, pos, after, guard⟩ (rRangeS a) := by
  intro rec L F k t A hR h1 h2 hM h
  obtain ⟨m, z, h3, h4⟩ := strK_true h
  have e1 : ev t x = .string (bytesOf m z) := (ha L t h1 h2).symm.trans (by rw [h3]; rfl)
  obtain ⟨h5, h6⟩ := newF_true h4
  have : opA P (ev t) ⟨dst, .range st x, ty, pos, after, guard⟩ A = some (.val (.pointer (some ⟨A.next, 0, none⟩)), A.add ⟨.stringIter (bytesOf m z) 0, false, false⟩) := by
    unfold opA
    rw [hk, cond_true]
    show valA (rangeA P st (ev t x) A) = _
    unfold rangeA
    rw [hu]
    dsimp only
    rw [hM.room h5, cond_true, e1]
    rfl
  rw [this]
  refine ⟨_, _, ?_, hM.add h5 (.siter m z 0), h6⟩
  rw [hM.next]
  rfl
theorem bytesOf_at {m z p : Nat} (h : p < (bytesOf m z).size) : ((bytesOf m z)[p]'h).toNat = (z >>> (8 * p)) % 256 := by
  have e : (bytesOf m z)[p]'h = UInt8.ofNat (Nat.shiftRight z (8 * p)) := by
    simp only [bytesOf, ByteArray.getElem_eq_getElem_data]
    simp
  rw [e]
  rfl
theorem rNextS_ok {x : Operand} {a : Acc} (ha : AccOk n x a) (hk : okOp ⟨dst, .next x true, ty, pos, after, guard⟩ = true) : LOk P B w0 n ⟨dst, .next x true, ty, pos, after, guard⟩ (rNextS a) := by
  intro rec L F k t A hR h1 h2 hM h
  obtain ⟨r, o, h3, h4⟩ := ptrK_true h
  obtain ⟨h5, h6⟩ := ifK_true h4
  obtain rfl := beq_eq h5
  obtain ⟨hb, m, z, p, h7, h8⟩ := siterK_true h6
  have q0 := hM.siter hb h7
  have e1 : ev t x = .pointer (some ⟨r, 0, none⟩) := (ha L t h1 h2).symm.trans (by rw [h3]; rfl)
  have hop : opA P (ev t) ⟨dst, .next x true, ty, pos, after, guard⟩ A = valA (nextSA (ev t x) A) := by
    unfold opA
    rw [hk, cond_true]
  rw [hop, e1]
  simp only [nextSA, q0, bytesOf_size]
  cases hq : Nat.blt p m with
  | false =>
    rw [hq] at h8
    exact ⟨over, F, rfl, hM, h8⟩
  | true =>
    rw [hq] at h8
    have h8 : ifK (Nat.blt (Nat.mod (Nat.shiftRight z (Nat.mul 8 p)) 256) 128) (putF r (.siter m z (Nat.succ p)) F fun F => k (.cons (.val (.bool true)) (.cons (.val (.int .i64 (Int.ofNat p))) (.cons (.val (.int .i32 (Int.ofNat (Nat.mod (Nat.shiftRight z (Nat.mul 8 p)) 256)))) .nil))) F) bad = true := h8
    obtain ⟨g1, g2⟩ := ifK_true h8
    have hlt : p < (bytesOf m z).size := by rw [bytesOf_size]; exact blt_lt hq
    have hd : Utf8.decode (bytesOf m z) p = ((z >>> (8 * p)) % 256, 1) := by
      rw [Go.decode_ascii _ p hlt (by rw [bytesOf_at]; exact blt_lt g1), bytesOf_at]
    have g3 := putF_true hb g2
    rw [cond_true, hd]
    exact ⟨_, _, rfl, hM.putA hb (.siter m z (p + 1)), g3⟩
theorem memNat_eq (x : Nat) : ∀ (l : List Nat), memNat x l = l.contains x
  | [] => rfl
  | a :: l => by
    have h : memNat x (a :: l) = Bool.rec (motive := fun _ => Bool) (memNat x l) true (Nat.beq a x) := rfl
    rw [h, List.contains_cons, memNat_eq x l]
    by_cases hq : a = x
    · subst hq; rw [Nat.beq_refl]; simp
    · rw [Tr.beq_false hq]
      have : (x == a) = false := by simpa using fun e => hq e.symm
      rw [this]
      rfl
theorem leftsK_true {seen : List Nat} : ∀ (l : List ME) {k : List ME → R}, leftsK seen l k = true → ∃ l', (l.map upE).filter (fun e => !(⟨seen⟩ : Array Nat).contains e.born) = l'.map upE ∧ k l' = true
  | [], k, h => ⟨[], rfl, h⟩
  | e :: l, k, h => by
    have h' : Bool.rec (motive := fun _ => R) (leftsK seen l fun l => k (⟨e.key, e.val, e.born⟩ :: l)) (leftsK seen l k) (memNat e.born seen) = true := h
    rw [List.map_cons, List.filter_cons]
    have hc : (⟨seen⟩ : Array Nat).contains (upE e).born = memNat e.born seen := by
      rw [memNat_eq]
      exact List.contains_toArray
    rw [hc]
    cases hq : memNat e.born seen with
    | true =>
      rw [hq] at h'
      exact leftsK_true l h'
    | false =>
      rw [hq] at h'
      obtain ⟨l', h1, h2⟩ := leftsK_true l (k := fun l => k (e :: l)) h'
      exact ⟨e :: l', by rw [h1]; rfl, h2⟩
theorem andK_true {x y : R} (h : andK x y = true) : x = true ∧ y = true := by cases x <;> first | exact ⟨rfl, h⟩ | exact not_bad h
theorem allN_true {f : ME → R} : ∀ (l : List ME), allN f l = true → ∀ e ∈ l, f e = true
  | [], _, e, he => by cases he
  | a :: l, h, e, he => by
    obtain ⟨h1, h2⟩ := andK_true (show andK (f a) (allN f l) = true from h)
    rcases List.mem_cons.1 he with rfl | he
    · exact h1
    · exact allN_true l h2 e he
theorem someBelow_eq (m : Nat) : ∀ (l : List ME), someBelow m l = !((l.map upE).all fun e => decide (m ≤ e.born))
  | [] => rfl
  | e :: l => by
    have h : someBelow m (e :: l) = Bool.rec (motive := fun _ => Bool) (someBelow m l) true (Nat.blt e.born m) := rfl
    rw [h, List.map_cons, List.all_cons, someBelow_eq m l, natBlt]
    show _ = !(decide (m ≤ e.born) && _)
    by_cases hq : e.born < m
    · rw [decide_eq_true hq, decide_eq_false (by omega)]; rfl
    · rw [decide_eq_false hq, decide_eq_true (by omega)]; rfl
theorem snocN_true {x : Nat} : ∀ (l : List Nat) {k : List Nat → R}, snocN x l k = true → k (l ++ [x]) = true
  | [], k, h => h
  | a :: l, k, h => snocN_true l (k := fun r => k (a :: r)) h
theorem isNil_eq {α : Type} (l : List α) : isNil l = l.isEmpty := by cases l <;> rfl
theorem rNext_ok {x : Operand} {a : Acc} (ha : AccOk n x a) (hk : okOp ⟨dst, .next x false, ty, pos, after, guard⟩ = true) : LOk P B w0 n ⟨dst, .next x false, ty, pos, after, guard⟩ (rNext a) := by
  intro rec L F k t A hR h1 h2 hM h
  obtain ⟨r, o, h3, h4⟩ := ptrK_true h
  obtain ⟨h5, h6⟩ := ifK_true h4
  obtain rfl := beq_eq h5
  obtain ⟨hb, m, since, seen, last, h7, h8⟩ := iterK_true h6
  have q0 := hM.iter hb h7
  have e1 : ev t x = .pointer (some ⟨r, 0, none⟩) := (ha L t h1 h2).symm.trans (by rw [h3]; rfl)
  have hop : opA P (ev t) ⟨dst, .next x false, ty, pos, after, guard⟩ A = valA (nextA (ev t x) A) := by
    unfold opA
    rw [hk, cond_true]
  rw [hop, e1]
  simp only [nextA, q0]
  cases m with
  | none =>
    dsimp only
    exact ⟨over, F, rfl, hM, h8⟩
  | some b =>
    dsimp only
    obtain ⟨hb2, es, clock, h9, h10⟩ := mapK_true (show mapK b F _ = true from h8)
    obtain ⟨cs, q1, q2⟩ := hM.map hb2 h9
    rw [q1]
    dsimp only
    obtain ⟨h11, h12⟩ := ifK_true h10
    have hc : (!(⟨seen⟩ : Array Nat).isEmpty && !cs.isEmpty && cs.toList.all (fun e => decide (last ≤ e.born))) = false := by
      rw [q2]
      rw [isNil_eq, isNil_eq, someBelow_eq] at h11
      have e2 : cs.isEmpty = es.isEmpty := by
        rw [← Array.isEmpty_toList, q2]
        cases es <;> rfl
      have e3 : (⟨seen⟩ : Array Nat).isEmpty = seen.isEmpty := by cases seen <;> rfl
      rw [e2, e3]
      revert h11
      generalize seen.isEmpty = u
      generalize es.isEmpty = v
      generalize (es.map upE).all (fun e => decide (last ≤ e.born)) = z
      cases u <;> cases v <;> cases z <;> intro h11 <;> first | rfl | cases h11
    have hc' := hc
    rw [hc, cond_false, q2]
    obtain ⟨l, g1, g2⟩ := leftsK_true es h12
    rw [g1]
    have one : ∀ e : ME, oneN r b since clock seen F k e = true → Nat.blt (upE e).born since = true ∧ Post k (.tuple #[.bool true, (upE e).key, (upE e).val]) (A.put r (some ⟨.mapIter (some b) since ((⟨seen⟩ : Array Nat).push (upE e).born) clock, false, false⟩)) := by
      intro e g2
      obtain ⟨g3, g4⟩ := ifK_true (show ifK (Nat.blt e.born since) _ bad = true from g2)
      obtain ⟨g5, g6⟩ := hd1_true g4
      have g7 := snocN_true _ g5
      have g8 := putF_true hb (show putF r _ F _ = true from g7)
      refine ⟨g3, _, _, ?_, hM.putA hb ?_, g8⟩
      · show Value.tuple ⟨SV.tl (.cons (.val (.bool true)) (.cons (.val e.key) (.cons e.val .nil)))⟩ = _
        show Value.tuple ⟨.bool true :: e.key.up :: SV.tl (.cons e.val .nil)⟩ = _
        rw [g6]
        rfl
      · have : (⟨seen⟩ : Array Nat).push (upE e).born = ⟨seen ++ [e.born]⟩ := by simp [upE]
        rw [this]
        exact .iter _ _ _ _
    cases l with
    | nil => exact ⟨over, F, rfl, hM, g2⟩
    | cons e t2 =>
      cases t2 with
      | nil =>
        obtain ⟨p1, p2⟩ := one e g2
        rw [List.map_cons, List.map_nil]
        dsimp only
        rw [p1, cond_true]
        exact p2
      | cons e2 t3 =>
        have hall := allN_true (e :: e2 :: t3) g2
        have hN : nextAll (ev t x) A = ((e :: e2 :: t3).map upE).map fun e => (Value.tuple #[.bool true, e.key, e.val], A.put r (some ⟨.mapIter (some b) since ((⟨seen⟩ : Array Nat).push e.born) clock, false, false⟩)) := by
          rw [e1]
          simp only [nextAll, q0]
          rw [q1]
          dsimp only
          rw [hc', cond_false, q2, g1]
          have hb2 : (((e :: e2 :: t3).map upE).all (fun e => Nat.blt e.born since) && Nat.ble 2 ((e :: e2 :: t3).map upE).length) = true := by
            rw [Bool.and_eq_true]
            refine ⟨List.all_eq_true.2 fun y hy => ?_, Nat.ble_eq_true_of_le (by simp)⟩
            obtain ⟨z, hz, rfl⟩ := List.mem_map.1 hy
            exact (one z (hall z hz)).1
          rw [hb2, cond_true]
        show NextK (ev t) ⟨dst, .next x false, ty, pos, after, guard⟩ A (Post k)
        refine ⟨hk, x, rfl, by rw [hN]; simp, fun p hp => ?_⟩
        rw [hN] at hp
        obtain ⟨y, hy, rfl⟩ := List.mem_map.1 hp
        obtain ⟨z, hz, rfl⟩ := List.mem_map.1 hy
        exact (one z (hall z hz)).2
theorem lastN_true : ∀ (l : List Nat) {k : Nat → R}, lastN l k = true → ∃ x, (⟨l⟩ : Array Nat).back? = some x ∧ k x = true
  | [], k, h => not_bad h
  | [a], k, h => ⟨a, by simp, h⟩
  | a :: b :: l, k, h => by
    obtain ⟨x, h1, h2⟩ := lastN_true (b :: l) (k := k) h
    refine ⟨x, ?_, h2⟩
    rw [List.back?_toArray] at h1 ⊢
    rw [List.getLast?_cons_cons]
    exact h1
theorem findB_true {m : Nat} : ∀ (l : List ME) {k : FV → SV → R}, findB m l k = true → ∃ e, (l.map upE).find? (fun e => e.born == m) = some (upE e) ∧ k e.key e.val = true
  | [], k, h => not_bad h
  | e :: l, k, h => by
    have h' : Bool.rec (motive := fun _ => R) (findB m l k) (k e.key e.val) (Nat.beq e.born m) = true := h
    rw [List.map_cons, List.find?_cons]
    have hb : ((upE e).born == m) = Nat.beq e.born m := by rw [natBeq]; rfl
    rw [hb]
    cases hq : Nat.beq e.born m with
    | true => rw [hq] at h'; exact ⟨e, rfl, h'⟩
    | false => rw [hq] at h'; exact findB_true l h'
theorem rEntry_ok {x : Operand} {a : Acc} (ha : AccOk n x a) (hk : okOp ⟨dst, .entry x, ty, pos, after, guard⟩ = true) : LOk P B w0 n ⟨dst, .entry x, ty, pos, after, guard⟩ (rEntry a) := by
  intro rec L F k t A hR h1 h2 hM h
  obtain ⟨r, o, h3, h4⟩ := ptrK_true h
  obtain ⟨h5, h6⟩ := ifK_true h4
  obtain rfl := beq_eq h5
  obtain ⟨hb, m, since, seen, last, h7, h8⟩ := iterK_true h6
  have q0 := hM.iter hb h7
  have e1 : ev t x = .pointer (some ⟨r, 0, none⟩) := (ha L t h1 h2).symm.trans (by rw [h3]; rfl)
  cases m with
  | none => exact not_bad h8
  | some b =>
    obtain ⟨st, g1, g2⟩ := lastN_true seen h8
    obtain ⟨hb2, es, clock, h9, h10⟩ := mapK_true g2
    obtain ⟨cs, q1, q2⟩ := hM.map hb2 h9
    obtain ⟨h11, h12⟩ := ifK_true h10
    obtain ⟨e, g3, g4⟩ := findB_true es h12
    obtain ⟨g5, g6⟩ := hd1_true g4
    have hen : entryA (ev t x) A = some (.tuple #[e.key.up, e.val.up]) := by
      rw [e1]
      simp only [entryA, q0, g1, q1]
      rw [h11, cond_true, q2, g3]
      rfl
    have hop : opA P (ev t) ⟨dst, .entry x, ty, pos, after, guard⟩ A = some (.val (.tuple #[e.key.up, e.val.up]), A) := by
      unfold opA
      rw [hk, cond_true]
      dsimp only
      rw [hen]
    rw [hop]
    refine ⟨_, F, ?_, hM, g5⟩
    show Value.tuple ⟨e.key.up :: SV.tl (.cons e.val .nil)⟩ = _
    rw [g6]
    rfl
theorem dropE_true : ∀ (l : List ME) (i : Nat) {k : List ME → R}, dropE l i k = true → k (l.eraseIdx i) = true
  | [], i, k, h => not_bad h
  | e :: l, 0, k, h => h
  | e :: l, i + 1, k, h => dropE_true l i (k := fun r => k (⟨e.key, e.val, e.born⟩ :: r)) h
theorem map_eraseIdx {α β : Type} (f : α → β) : ∀ (l : List α) (i : Nat), (l.eraseIdx i).map f = (l.map f).eraseIdx i
  | [], _ => rfl
  | _ :: _, 0 => rfl
  | a :: l, i + 1 => by simp [map_eraseIdx f l i]
theorem zeroCells_at {v : Value} {m p : Nat} (hp : p < m * v.cells.size) : (Builtin.zeroCells v.cells m).toList[p]? = v.cells[p % v.cells.size]? := by
  have h0 : 0 < v.cells.size := by
    rcases Nat.eq_zero_or_pos v.cells.size with h | h
    · rw [h] at hp; omega
    · exact h
  have hm := Nat.mod_lt p h0
  unfold Builtin.zeroCells
  rw [Array.getElem?_toList, Array.getElem?_map, Array.getElem?_range, if_pos hp, Option.map_some, getElem!_pos v.cells _ hm, ← Array.getElem?_eq_getElem]
theorem rClear_ok {mt e : TypeId} {x : Operand} {args : Array Operand} {ts : Array TypeId} {a : Acc} {z : List Value} (hargs : args.toList = [x]) (hts : ts.toList = [mt]) (hu : P.underlying mt = some (.slice e)) (hz : zeroB P e = some z) (hz6 : z.length ≤ 64) (ha : AccOk n x a) (hk : okOp ⟨dst, .call ⟨.builtin .clear, args, ts⟩, ty, pos, after, guard⟩ = true) :
    LOk P B w0 n ⟨dst, .call ⟨.builtin .clear, args, ts⟩, ty, pos, after, guard⟩ (rClear (rowOf z 0 row0) z.length a) := by
  intro rec L F k t A hR h1 h2 hM h
  have fin : ∀ {A' : AW} {F' : FM}, clearA P mt (ev t x) A = some A' → MR F' A' → k .nil F' = true → (match opA P (ev t) ⟨dst, .call ⟨.builtin .clear, args, ts⟩, ty, pos, after, guard⟩ A with
      | some (.val v, A') => Post k v A'
      | some (.skip, A') => Post k undef A'
      | some (.enter f args, A') => CallS P B w0 f args A' (Post k)
      | some (.round b tmps a c, A') => RoundW P B w0 b tmps a c A' (Post k)
      | none => NextK (ev t) ⟨dst, .call ⟨.builtin .clear, args, ts⟩, ty, pos, after, guard⟩ A (Post k)) := by
    intro A' F' hcl hM' hk'
    have hop : opA P (ev t) ⟨dst, .call ⟨.builtin .clear, args, ts⟩, ty, pos, after, guard⟩ A = some (.val (.tuple #[]), A') := by
      unfold opA
      rw [hk, cond_true]
      dsimp only
      rw [hargs, hts]
      dsimp only
      rw [hcl]
    rw [hop]
    exact ⟨.nil, F', rfl, hM', hk'⟩
  rcases slcK_true h with ⟨m, c, h3, h4⟩ | ⟨b, o, m, c, h3, h4⟩
  · refine fin ?_ hM h4
    unfold clearA
    rw [hu, show ev t x = .slice none m c from (ha L t h1 h2).symm.trans (by rw [h3]; rfl)]
  · have e1 : ev t x = .slice (some ⟨b, o, none⟩) m c := (ha L t h1 h2).symm.trans (by rw [h3]; rfl)
    cases hq : Nat.beq m 0 with
    | true =>
      rw [hq] at h4
      refine fin ?_ hM h4
      unfold clearA
      rw [hu, e1]
      dsimp only
      rw [hq]
      rfl
    | false =>
      rw [hq] at h4
      obtain ⟨hb, rows, n1, esz, e2, fam, ro, h5, h6⟩ := blkK_true (show blkK b F _ = true from h4)
      obtain ⟨h7, h8⟩ := ifK_true h6
      rw [Bool.and_eq_true, Bool.and_eq_true] at h7
      obtain ⟨⟨q1, q2⟩, q3⟩ := h7
      have hro : ro = false := by cases ro <;> first | rfl | cases q1
      subst hro
      obtain rfl := beq_eq q2
      have hal : o % z.length = 0 := beq_eq q3
      obtain ⟨h9, h10⟩ := ifK_true (show ifK (Nat.ble (Nat.add (Nat.div o z.length) m) n1) _ bad = true from h8)
      have hfit : o / z.length + m ≤ n1 := Nat.le_of_ble_eq_true h9
      obtain ⟨cc, hc⟩ := hM.at hb h5
      have hc0 := hc.h0
      have hc2 := hc.h2
      obtain ⟨r, r1, r2⟩ := copyR_true m 0 (o / z.length) _ rows _ (by rw [Nat.zero_add]; exact Nat.le_trans (Nat.le_trans (Nat.le_add_left _ _) hfit) hc2) (Nat.le_trans hfit hc2) h10
      have h13 := putF_true hb r1
      obtain ⟨it, v, hi, hv, hcz, hcs, hpos, hzl, hsz, hone⟩ := zeroB_spec hz
      have hvs : v.cells.size = z.length := by omega
      have ho : o = o / z.length * z.length := by
        have := Nat.div_add_mod o z.length
        rw [hal, Nat.add_zero, Nat.mul_comm] at this
        exact this.symm
      have hlen : (Builtin.zeroCells v.cells m).toList.length = m * z.length := by simp [Builtin.zeroCells, hvs]
      have hmul : o / z.length * z.length + m * z.length ≤ n1 * z.length := by rw [← Nat.add_mul]; exact Nat.mul_le_mul_right _ hfit
      obtain ⟨A', c', g1, g2, g3, g4, g5, g6⟩ := run_storeCells (P := P) (o := o) hb (Builtin.zeroCells v.cells m).toList 0 A cc hc.get (by rw [hlen, hc.size]; omega) (fun u hu => by
        obtain ⟨p, hp⟩ := List.getElem?_of_mem hu
        have hpl : p < m * z.length := by
          rw [← hlen]
          exact (List.getElem?_eq_some_iff.1 hp).1
        rw [zeroCells_at (by rw [hvs]; exact hpl), ← Array.getElem?_toList, hcz] at hp
        exact hone u (List.mem_of_getElem? hp))
      refine fin (A' := A') ?_ (hM.put hb g2 ?_ g3) h13
      · unfold clearA
        rw [hu, e1]
        dsimp only
        rw [hq, cond_false, hi]
        dsimp only
        rw [hv]
        dsimp only
        rw [g1]
      · rw [g4]
        refine .blk hc.h0 hc.h1 hc.h2 (by rw [g5]; exact hc.size) fun j hj => ?_
        rw [g6 j, hlen, Nat.add_zero]
        have hd : j / z.length < n1 := Nat.div_lt_of_lt_mul (by rw [Nat.mul_comm]; exact hj)
        have hmj := Nat.mod_lt j hc0
        have hdj : j / z.length * z.length + j % z.length = j := by rw [Nat.mul_comm]; exact Nat.div_add_mod j z.length
        unfold cellAt
        rw [r2 _ (by omega)]
        by_cases hin : o / z.length ≤ j / z.length ∧ j / z.length < o / z.length + m
        · have l1 : o / z.length * z.length ≤ j / z.length * z.length := Nat.mul_le_mul_right _ hin.1
          have l2 : (j / z.length + 1) * z.length ≤ (o / z.length + m) * z.length := Nat.mul_le_mul_right _ hin.2
          rw [Nat.add_mul, Nat.add_mul, Nat.one_mul] at l2
          have l5 : j - o < m * z.length := by omega
          have l6 : j / z.length - o / z.length < 512 := Nat.lt_of_le_of_lt (Nat.sub_le _ _) (Nat.lt_of_lt_of_le hd hc2)
          rw [if_pos hin, if_pos (by omega), Nat.zero_add, r8_at _ _ l6, ← rowOf_up hz6 hone hmj row0, zeroCells_at (by rw [hvs]; exact l5), hvs, ← Array.getElem?_toList, hcz]
          congr 1
          have l3 : j - o = (j / z.length - o / z.length) * z.length + j % z.length := by rw [Nat.sub_mul]; omega
          rw [l3, Nat.mul_comm, Nat.mul_add_mod, Nat.mod_mod]
        · rw [if_neg hin, if_neg ?_]
          · exact hc.cell j hj
          · rintro ⟨l1, l2⟩
            apply hin
            refine ⟨Nat.div_le_div_right l1, ?_⟩
            rw [ho, ← Nat.add_mul] at l2
            exact Nat.div_lt_of_lt_mul (by rw [Nat.mul_comm]; exact l2)
theorem rDelete_ok {mt u kt e : TypeId} {x y : Operand} {args : Array Operand} {ts : Array TypeId} {a b' : Acc} {s : Option IntKind} (hargs : args.toList = [x, y]) (hts : ts.toList = [mt, u]) (hu : P.underlying mt = some (.map kt e)) (hs : keyB P kt = some s) (ha : AccOk n x a) (hb : AccOk n y b') (hk : okOp ⟨dst, .call ⟨.builtin .delete, args, ts⟩, ty, pos, after, guard⟩ = true) :
    LOk P B w0 n ⟨dst, .call ⟨.builtin .delete, args, ts⟩, ty, pos, after, guard⟩ (rDelete s a b') := by
  intro rec L F k t A hR h1 h2 hM h
  obtain ⟨key, h3, h4⟩ := valK_true h
  obtain ⟨hkt, h5⟩ := kindK_true h4
  have e2 : ev t y = key.up := (hb L t h1 h2).symm.trans (by rw [h3]; rfl)
  have hd := keyB_spec hs
  have fin : ∀ {A' : AW} {F' : FM}, deleteA P mt (ev t x) (ev t y) A = some A' → MR F' A' → k .nil F' = true → (match opA P (ev t) ⟨dst, .call ⟨.builtin .delete, args, ts⟩, ty, pos, after, guard⟩ A with
      | some (.val v, A') => Post k v A'
      | some (.skip, A') => Post k undef A'
      | some (.enter f args, A') => CallS P B w0 f args A' (Post k)
      | some (.round b tmps a c, A') => RoundW P B w0 b tmps a c A' (Post k)
      | none => NextK (ev t) ⟨dst, .call ⟨.builtin .delete, args, ts⟩, ty, pos, after, guard⟩ A (Post k)) := by
    intro A' F' hdel hM' hk'
    have hop : opA P (ev t) ⟨dst, .call ⟨.builtin .delete, args, ts⟩, ty, pos, after, guard⟩ A = some (.val (.tuple #[]), A') := by
      unfold opA
      rw [hk, cond_true]
      dsimp only
      rw [hargs, hts]
      dsimp only
      rw [hdel]
    rw [hop]
    exact ⟨.nil, F', rfl, hM', hk'⟩
  rcases mpK_true h5 with ⟨h6, h7⟩ | ⟨b, h6, h7⟩
  · have e1 : ev t x = .map none := (ha L t h1 h2).symm.trans h6
    refine fin ?_ hM h7
    unfold deleteA
    rw [hu]
    dsimp only
    rw [hd]
    dsimp only
    rw [e1, e2, hkt]
    rfl
  · have e1 : ev t x = .map (some b) := (ha L t h1 h2).symm.trans (by rw [h6]; rfl)
    obtain ⟨hb2, es, c, h8, h9⟩ := mapK_true h7
    obtain ⟨cs, q1, q2⟩ := hM.map hb2 h8
    have base : ∀ (X : Option AW), (match Instr.findNow (kd s) key.up (es.map upE) 0 with
            | some (some (i, _)) => some (A.put b (some ⟨.map (cs.eraseIdxIfInBounds i) c, false, false⟩))
            | some none => some (A.put b (some ⟨.map cs c, false, false⟩))
            | none => none) = X → deleteA P mt (ev t x) (ev t y) A = X := by
      intro X hX
      unfold deleteA
      rw [hu]
      dsimp only
      rw [hd]
      dsimp only
      rw [e1, e2, hkt, cond_true]
      dsimp only
      rw [q1]
      dsimp only
      rw [q2]
      exact hX
    rcases findF_true hkt es 0 h9 with ⟨g1, g2⟩ | ⟨j, e', g1, g2, g3, g4⟩
    · refine fin (base _ (by rw [g1])) (A' := A.put b (some ⟨.map cs c, false, false⟩)) (F' := F) ⟨hM.next, fun d hd2 => ?_⟩ g2
      rw [AW.put_at hb2]
      by_cases hq : d = b
      · rw [if_pos hq, hq, ← q1]; exact hM.blk b hb2
      · rw [if_neg hq]; exact hM.blk d hd2
    · have g5 := dropE_true _ _ g4
      have g6 := putF_true hb2 (show putF b _ F _ = true from g5)
      refine fin (base _ (by rw [g1])) (hM.putA hb2 (.map ?_)) g6
      have : (cs.eraseIdxIfInBounds (0 + j)).toList = cs.toList.eraseIdx (0 + j) := by simp
      rw [this, q2]
      exact (map_eraseIdx upE es (0 + j)).symm
end
end
end Go.Proofs.YtnneooidkbhbeaaGreatDoor.Fast
