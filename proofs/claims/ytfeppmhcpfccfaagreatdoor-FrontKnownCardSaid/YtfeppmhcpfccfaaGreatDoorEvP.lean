/- A fast evaluator, part L: what a program's operation becomes. Of no program. -/
import Derived.Test.YtfeppmhcpfccfaaGreatDoorEvU
set_option linter.unusedVariables false
set_option linter.unusedSimpArgs false
namespace Go.Proofs.YtfeppmhcpfccfaaGreatDoor.Fast
open Go Go.RowKit Go.Proofs.YtfeppmhcpfccfaaGreatDoor.Sim
noncomputable section
section
variable {P : Program} {B : Nat} {w0 : Base} {n : Nat} {gl : Nat → Bool}
/-- parts of strings -/
theorem natOf_some {v : Value} {d i : Nat} (h : natOf (some v) d = some i) : ∃ k, v = .int k (Int.ofNat i) := by
  cases v with
  | int k z =>
    have h' : (bif decide (0 ≤ z) then some z.toNat else none) = some i := h
    cases hd : decide (0 ≤ z) with
    | false => rw [hd] at h'; cases h'
    | true =>
      rw [hd, cond_true] at h'
      injection h' with h'
      have h0 := of_decide_eq_true hd
      exact ⟨k, by rw [← h']; congr 1; simp only [Int.ofNat_eq_natCast]; omega⟩
  | _ => cases h
theorem run_bound {v : Value} {d i y : Nat} {code : BoundsCode} (h : natOf (some v) d = some i) (hy : i ≤ y) : pureRun P (Instr.sliceBound v y code) = some i := by
  obtain ⟨k, rfl⟩ := natOf_some h
  unfold Instr.sliceBound
  refine pureRun_bind.2 ⟨(k, Int.ofNat i), rfl, ?_⟩
  dsimp only
  rw [if_pos ⟨show (0 : Int) ≤ Int.ofNat i from Int.natCast_nonneg i, by simp only [Int.ofNat_eq_natCast]; omega⟩]
  rfl
theorem run_bounds {m : Nat} {lo hi : Option Value} {i j : Nat} (hl : natOf lo 0 = some i) (hh : natOf hi m = some j) (h1 : i ≤ j) (h2 : j ≤ m) : pureRun P (Instr.sliceBounds false m m lo hi none) = some (i, j, m) := by
  have h3 : ∀ (v : Value), hi = some v → pureRun P (Instr.sliceBound v m .sliceAlen) = some j := fun v hv => by subst hv; exact run_bound hh h2
  have h4 : ∀ (v : Value), lo = some v → pureRun P (Instr.sliceBound v j .sliceB) = some i := fun v hv => by subst hv; exact run_bound hl h1
  cases hi with
  | none =>
    injection hh with hh; subst hh
    cases lo with
    | none => injection hl with hl; subst hl; rfl
    | some v =>
      dsimp only [Instr.sliceBounds]
      refine pureRun_bind.2 ⟨m, rfl, ?_⟩
      refine pureRun_bind.2 ⟨m, rfl, ?_⟩
      exact pureRun_bind.2 ⟨i, h4 v rfl, rfl⟩
  | some u =>
    cases lo with
    | none =>
      injection hl with hl; subst hl
      dsimp only [Instr.sliceBounds]
      refine pureRun_bind.2 ⟨m, rfl, ?_⟩
      refine pureRun_bind.2 ⟨j, h3 u rfl, ?_⟩
      exact pureRun_bind.2 ⟨0, rfl, rfl⟩
    | some v =>
      dsimp only [Instr.sliceBounds]
      refine pureRun_bind.2 ⟨m, rfl, ?_⟩
      refine pureRun_bind.2 ⟨j, h3 u rfl, ?_⟩
      exact pureRun_bind.2 ⟨i, h4 v rfl, rfl⟩
theorem boOf_free {x : Option Operand} {b : Bo} (hb : boOf gl n x = some b) {t : Operand → Value} {d i : Nat} (h : natOf (x.map t) d = some i) : x.toArray.toList.all (fun y => free (t y)) = true := by
  cases x with
  | none => rfl
  | some x =>
    obtain ⟨k, hk⟩ := natOf_some (show natOf (some (t x)) d = some i from h)
    show List.all [x] _ = true
    simp [hk, free, freeD, leafFree]
theorem rSub_ok {s : TypeId} {x : Operand} {lo hi : Option Operand} {a : Acc} {l h' : Bo} {dst : Option Tmp} {ty : TypeId} {pos : String} {after : Array Edge} {guard : Option (Nat × Bool)} (hu : P.underlying s = some .string) (ha : AccOk n x a) (hl : boOf gl n lo = some l) (hh : boOf gl n hi = some h') (hk : okOp ⟨dst, .slice s x lo hi none, ty, pos, after, guard⟩ = true) : QOk P n ⟨dst, .slice s x lo hi none, ty, pos, after, guard⟩ (rSub a l h') :=
  QOk.val fun rec L F k t A h1 h2 hM h => by
    obtain ⟨m, z, h3, h4⟩ := strK_true h
    have e1 : ev t x = .string (bytesOf m z) := (ha L t h1 h2).symm.trans (by rw [h3]; rfl)
    obtain ⟨i, g1, g2⟩ := boOf_ok hl h1 h2 h4
    obtain ⟨j, g3, g4⟩ := boOf_ok hh h1 h2 g2
    obtain ⟨g5, g6⟩ := ifK_true g4
    rw [Bool.and_eq_true] at g5
    have hij : i ≤ j := Nat.le_of_ble_eq_true g5.1
    have hjm : j ≤ m := Nat.le_of_ble_eq_true g5.2
    have hcls : cls (ev t) ⟨dst, .slice s x lo hi none, ty, pos, after, guard⟩ = .pure := by
      show (match ev t x with | .slice _ _ _ => Cls.mem | _ => Cls.pure) = _
      rw [e1]
    have hq : opQ P (ev t) ⟨dst, .slice s x lo hi none, ty, pos, after, guard⟩ = some (SV.up (.val (.str (j - i) ((z >>> (8 * i)) % 2 ^ (8 * (j - i)))))) := by
      show (match ev t x with | .slice _ _ _ => none | _ => freeQ P (ev t) ⟨dst, .slice s x lo hi none, ty, pos, after, guard⟩) = _
      rw [e1]
      show freeQ P (ev t) ⟨dst, .slice s x lo hi none, ty, pos, after, guard⟩ = _
      unfold freeQ
      have e3 : (List.all (Oper.op ⟨dst, .slice s x lo hi none, ty, pos, after, guard⟩).operands.toList fun z => free (ev t z)) = true := by
        show List.all (#[x] ++ lo.toArray ++ hi.toArray ++ (none : Option Operand).toArray).toList _ = true
        have q1 := boOf_free hl g1
        have q2 := boOf_free hh g3
        simp only [Array.toList_append, List.all_append, q1, q2, Bool.and_true]
        simp [e1, free, freeD, leafFree]
      have e4 : pureRun P (execOp (ev t) ⟨dst, .slice s x lo hi none, ty, pos, after, guard⟩) = some (.value (.string ((bytesOf m z).extract i j))) := by
        show pureRun P (Sem.bind (Instr.sliceAt s (ev t x) (lo.map (ev t)) (hi.map (ev t)) none) fun v => Sem.pure (Next.value v)) = _
        rw [e1]
        refine pureRun_bind.2 ⟨.string ((bytesOf m z).extract i j), ?_, rfl⟩
        unfold Instr.sliceAt
        refine pureRun_bind.2 ⟨_, run_und hu, ?_⟩
        dsimp only
        unfold Instr.slice
        refine pureRun_bind.2 ⟨_, run_und hu, ?_⟩
        dsimp only
        rw [if_neg (by decide)]
        refine pureRun_bind.2 ⟨(i, j, m), ?_, rfl⟩
        rw [bytesOf_size]
        exact run_bounds g1 g3 hij hjm
      rw [e3, e4, sub_eq hij hjm]
      rfl
    exact ⟨_, quiet_pure hk hcls hq, _, F, rfl, hM, g6⟩
theorem rLenS_ok {s : TypeId} {x : Operand} {a : Acc} {args : Array Operand} {ts : Array TypeId} {dst : Option Tmp} {ty : TypeId} {pos : String} {after : Array Edge} {guard : Option (Nat × Bool)} (hargs : args.toList = [x]) (hts : ts.toList = [s]) (hu : P.underlying s = some .string) (ha : AccOk n x a) (hk : okOp ⟨dst, .call ⟨.builtin .len, args, ts⟩, ty, pos, after, guard⟩ = true) : QOk P n ⟨dst, .call ⟨.builtin .len, args, ts⟩, ty, pos, after, guard⟩ (rLenS a) :=
  QOk.pureAt hk fun rec L F k t h1 h2 h => by
    obtain ⟨m, z, h3, h4⟩ := strK_true h
    have e1 : ev t x = .string (bytesOf m z) := (ha L t h1 h2).symm.trans (by rw [h3]; rfl)
    have hargs' : args = #[x] := by rw [← Array.toArray_toList (xs := args), hargs]
    have hts' : ts = #[s] := by rw [← Array.toArray_toList (xs := ts), hts]
    subst hargs' hts'
    refine ⟨_, cls_len rfl (fun b => by rw [e1]; exact ⟨fun e => (by cases e), fun e => (by cases e)⟩), ?_, h4⟩
    show (match ev t x with | .slice _ n _ => _ | _ => freeQ P (ev t) _) = _
    rw [e1]
    show freeQ P (ev t) ⟨dst, .call ⟨.builtin .len, #[x], #[s]⟩, ty, pos, after, guard⟩ = _
    unfold freeQ
    have e3 : (List.all (Oper.op ⟨dst, .call ⟨.builtin .len, #[x], #[s]⟩, ty, pos, after, guard⟩).operands.toList fun z => free (ev t z)) = true := by
      show List.all [x] _ = true
      simp [e1, free, freeD, leafFree]
    have e4 : pureRun P (execOp (ev t) ⟨dst, .call ⟨.builtin .len, #[x], #[s]⟩, ty, pos, after, guard⟩) = some (.value (.int .i64 (Int.ofNat m))) := by
      have hm : (#[x] : Array Operand).map (ev t) = #[ev t x] := by simp
      show pureRun P (Sem.bind (resolve (ev t) ⟨.builtin .len, #[x], #[s]⟩ ty) fun d => invoke d.target d.args) = _
      refine pureRun_bind.2 ⟨{ target := .builtin .len #[s] ty ((#[x] : Array Operand).map fun | .const _ => true | _ => false), args := #[ev t x] }, ?_, ?_⟩
      · unfold resolve
        rw [hm]
        rfl
      · show pureRun P (Sem.bind (Builtin.len_ #[s] ty #[ev t x]) fun v => Sem.pure (Next.value v)) = _
        rw [e1]
        refine pureRun_bind.2 ⟨.int .i64 (Int.ofNat m), ?_, rfl⟩
        unfold Builtin.len_
        show pureRun P (Sem.bind (Go.underlying s) _) = _
        refine pureRun_bind.2 ⟨_, run_und hu, ?_⟩
        show some (Value.int .i64 ((bytesOf m z).size : Int)) = _
        rw [bytesOf_size]
        rfl
    rw [e3, e4]
    rfl
theorem lenE_eq : ∀ (l : List ME), lenE l = l.length
  | [] => rfl
  | _ :: l => congrArg Nat.succ (lenE_eq l)
theorem rLenM_ok {s kt e : TypeId} {x : Operand} {a : Acc} {args : Array Operand} {ts : Array TypeId} {dst : Option Tmp} {ty : TypeId} {pos : String} {after : Array Edge} {guard : Option (Nat × Bool)} (hargs : args.toList = [x]) (hts : ts.toList = [s]) (hu : P.underlying s = some (.map kt e)) (ha : AccOk n x a) (hk : okOp ⟨dst, .call ⟨.builtin .len, args, ts⟩, ty, pos, after, guard⟩ = true) :
    QOk P n ⟨dst, .call ⟨.builtin .len, args, ts⟩, ty, pos, after, guard⟩ (rLenM a (slowOf P n ⟨dst, .call ⟨.builtin .len, args, ts⟩, ty, pos, after, guard⟩)) := by
  intro rec L F k t A h1 h2 hM h
  obtain ⟨v, h3, h4⟩ := valK_true h
  cases v with
  | map b =>
    obtain ⟨hb, es, c, h5, h6⟩ := mapK_true (show mapK b F _ = true from h4)
    rw [num_eq, lenE_eq] at h6
    obtain ⟨cs, q1, q2⟩ := hM.map hb h5
    have e1 : ev t x = .map (some b) := (ha L t h1 h2).symm.trans (by rw [h3]; rfl)
    have hts0 : ts[0]? = some s := by rw [← Array.getElem?_toList, hts]; rfl
    have hsz : cs.size = es.length := by rw [← Array.length_toList, q2, List.length_map]
    have hc : cls (ev t) ⟨dst, .call ⟨.builtin .len, args, ts⟩, ty, pos, after, guard⟩ = .mem := by
      unfold cls
      dsimp only
      rw [hargs]
      dsimp only
      rw [e1]
    have hv : opM P (ev t) A ⟨dst, .call ⟨.builtin .len, args, ts⟩, ty, pos, after, guard⟩ = some (.int .i64 (cs.size : Int)) := by
      unfold opM
      dsimp only
      rw [hargs]
      dsimp only
      rw [e1]
      exact lenM_of hts0 hu q1
    rw [quiet_mem hk hc hv]
    exact ⟨.val (.int .i64 (Int.ofNat es.length)), F, by rw [hsz]; rfl, hM, h6⟩
  | val u =>
    have h4 : slowOf P n ⟨dst, .call ⟨.builtin .len, args, ts⟩, ty, pos, after, guard⟩ rec L F k = true := h4
    refine slow_ok (fun t v hv => cls_len hargs fun b => ⟨fun hb => ?_, fun hb => ?_⟩) hk rec L F k t A h1 h2 hM h4
    all_goals
      have hargs' : args = #[x] := by rw [← Array.toArray_toList (xs := args), hargs]
      subst hargs'
      have hq : opQ P t ⟨dst, .call ⟨.builtin .len, #[x], ts⟩, ty, pos, after, guard⟩ = freeQ P t ⟨dst, .call ⟨.builtin .len, #[x], ts⟩, ty, pos, after, guard⟩ := by
        show (match t x with | .slice _ n _ => _ | _ => freeQ P t _) = _
        rw [hb]
      rw [hq] at hv
      unfold freeQ at hv
      have e3 : (List.all (Oper.op ⟨dst, .call ⟨.builtin .len, #[x], ts⟩, ty, pos, after, guard⟩).operands.toList fun z => free (t z)) = false := by
        show List.all [x] _ = false
        simp [hb, free, freeD, leafFree]
      rw [e3] at hv
      cases hv
  | _ => exact not_bad h4
/-- an operation is what it is to be -/
def OpOk (P : Program) (B : Nat) (w0 : Base) (n : Nat) (o : Oper) (c : Op1) : Prop := (loudB o = false → QOk P n o c) ∧ (loudB o = true → LOk P B w0 n o c)
theorem OpOk.q {o : Oper} {c : Op1} (hl : loudB o = false) (h : QOk P n o c) : OpOk P B w0 n o c := ⟨fun _ => h, fun h2 => by rw [hl] at h2; cases h2⟩
theorem OpOk.l {o : Oper} {c : Op1} (hl : loudB o = true) (h : LOk P B w0 n o c) : OpOk P B w0 n o c := ⟨fun h2 => (by rw [hl] at h2; cases h2), fun _ => h⟩
theorem OpOk.bad {o : Oper} : OpOk P B w0 n o rBad := ⟨fun _ => QOk.bad, fun _ => LOk.bad⟩
theorem info_of_underlying {e : TypeId} {d : TypeDesc} (h : P.underlying e = some d) : ∃ i, P.info? e = some i := by
  cases hi : P.info? e with
  | some i => exact ⟨i, rfl⟩
  | none =>
    unfold Program.underlying at h
    simp [hi] at h
theorem mapM_at : ∀ {fs : List Field} {places : List (Nat × Nat)}, (fs.mapM fun f => (P.info? f.type).map fun i => (f.offset, i.size)) = some places → ∀ {i : Nat} {f : Field}, fs[i]? = some f → ∃ it, P.info? f.type = some it ∧ places[i]? = some (f.offset, it.size)
  | [], places, h, i, f, hf => by simp at hf
  | g :: fs, places, h, i, f, hf => by
    rw [List.mapM_cons] at h
    cases hg : P.info? g.type with
    | none => rw [hg] at h; cases h
    | some ig =>
      rw [hg] at h
      cases hr : (fs.mapM fun f => (P.info? f.type).map fun i => (f.offset, i.size)) with
      | none => rw [hr] at h; cases h
      | some r =>
        rw [hr] at h
        have h' : (g.offset, ig.size) :: r = places := by injection h
        subst h'
        cases i with
        | zero =>
          have : g = f := by simpa using hf
          subst this
          exact ⟨ig, hg, rfl⟩
        | succ i => exact mapM_at hr (by simpa using hf)
theorem aggB_info {e : TypeId} {q : Bool} (h : aggB P e = some q) : ∃ i, P.info? e = some i := by
  unfold aggB at h
  cases hu : P.underlying e with
  | none => rw [hu] at h; cases h
  | some d => exact info_of_underlying hu
theorem sizeB_info {e : TypeId} {i : TypeInfo} (h : P.info? e = some i) : sizeB P e = i.size := by unfold sizeB; rw [h]
theorem zeroB_pos {e : TypeId} {z : List Value} (h : zeroB P e = some z) : 0 < z.length ∧ sizeB P e = z.length := by
  obtain ⟨i, v, h1, h2, h3, h4, h5, h6, h7, h8⟩ := zeroB_spec h
  exact ⟨by omega, by omega⟩
variable {dst : Option Tmp} {ty : TypeId} {pos : String} {after : Array Edge} {guard : Option (Nat × Bool)}
theorem slow_of {op : Op} (hcls : ∀ t, cls t ⟨dst, op, ty, pos, after, guard⟩ = .pure) (hA : ∀ t A, opA P t ⟨dst, op, ty, pos, after, guard⟩ A = bif okOp ⟨dst, op, ty, pos, after, guard⟩ then (match opQ P t ⟨dst, op, ty, pos, after, guard⟩ with | some v => some (.val v, A) | none => none) else none) (hk : okOp ⟨dst, op, ty, pos, after, guard⟩ = true) : OpOk P B w0 n ⟨dst, op, ty, pos, after, guard⟩ (slowOf P n ⟨dst, op, ty, pos, after, guard⟩) :=
  ⟨fun _ => slow_ok (fun t _ _ => hcls t) hk, fun _ => slowL_ok (fun t v A hk hq => by rw [hA, hk, cond_true, hq]) hk⟩
theorem binOf_ok {op : BinOp} {xt yt : TypeId} {x y : Operand} (hk : okOp ⟨dst, .binOp op xt x y yt, ty, pos, after, guard⟩ = true) : OpOk P B w0 n ⟨dst, .binOp op xt x y yt, ty, pos, after, guard⟩ (binOf gl P n ⟨dst, .binOp op xt x y yt, ty, pos, after, guard⟩ op xt x y) := by
  have slow : OpOk P B w0 n ⟨dst, .binOp op xt x y yt, ty, pos, after, guard⟩ (slowOf P n ⟨dst, .binOp op xt x y yt, ty, pos, after, guard⟩) := slow_of (fun _ => rfl) (fun _ _ => rfl) hk
  unfold binOf binD
  split
  · rename_i a b k ha hb hu
    have ha := accOf_ok ha
    have hb := accOf_ok hb
    cases op with
    | eql => exact OpOk.q rfl (rCmp_ok bin_eql ha hb hk)
    | neq => exact OpOk.q rfl (rCmp_ok bin_neq ha hb hk)
    | lss => exact OpOk.q rfl (rCmp_ok bin_lss ha hb hk)
    | gtr => exact OpOk.q rfl (rCmp_ok bin_gtr ha hb hk)
    | leq => exact OpOk.q rfl (rCmp_ok bin_leq ha hb hk)
    | geq => exact OpOk.q rfl (rCmp_ok bin_geq ha hb hk)
    | add => exact OpOk.q rfl (rArith_ok (g := fun _ a b => a + b) addI_true bin_add ha hb hk)
    | sub => exact OpOk.q rfl (rArith_ok (g := fun _ a b => a - b) subI_true bin_sub ha hb hk)
    | mul => exact OpOk.q rfl (rArith_ok (g := fun _ a b => a * b) mulI_true bin_mul ha hb hk)
    | _ => exact slow
  · rename_i a b ha hb hu
    have ha := accOf_ok ha
    have hb := accOf_ok hb
    cases op with
    | eql => exact OpOk.q rfl (rStrEq_ok (neg := false) ha hb hk)
    | neq => exact OpOk.q rfl (rStrEq_ok (neg := true) ha hb hk)
    | add => exact OpOk.q rfl (rCat_ok ha hb hk)
    | _ => exact slow
  · exact slow
theorem decOp_ok {o : Oper} (hk : okOp o = true) : OpOk P B w0 n o (decOp gl P n o) := by
  obtain ⟨dst, op, ty, pos, after, guard⟩ := o
  cases op with
  | move x =>
    unfold decOp decD
    dsimp only
    cases hx : accOf gl n x with
    | none => exact OpOk.bad
    | some a => exact OpOk.q rfl (rMove_ok (accOf_ok hx) hk)
  | assign x =>
    unfold decOp decD
    dsimp only
    cases hx : accOf gl n x with
    | none => exact OpOk.bad
    | some a => exact OpOk.q rfl (rAssign_ok (accOf_ok hx) hk)
  | pick c x y =>
    unfold decOp decD
    dsimp only
    split
    · rename_i a b c h1 h2 h3
      exact OpOk.q rfl (rPick_ok (accOf_ok h1) (accOf_ok h2) (accOf_ok h3) hk)
    · exact OpOk.bad
  | load s x =>
    unfold decOp decD
    dsimp only
    split
    · rename_i a h1 h2
      exact OpOk.q rfl (rLoadN_ok h2 (aggB_info h2) (accOf_ok h1) hk)
    · rename_i a h1 h2
      exact OpOk.q rfl (rLoad_ok h2 (accOf_ok h1) hk)
    · exact OpOk.bad
  | store s x y =>
    unfold decOp decD
    dsimp only
    split
    · rename_i a b h1 h2 h3
      obtain ⟨i, hi⟩ := aggB_info h3
      cases hq : Nat.beq (sizeB P s) 0 with
      | true => exact OpOk.bad
      | false =>
        rw [sizeB_info hi] at hq ⊢
        have hpos : 0 < i.size := by
          rcases Nat.eq_zero_or_pos i.size with h0 | h0
          · rw [h0] at hq; cases hq
          · exact h0
        exact OpOk.l rfl (rStoreN_ok hi hpos (accOf_ok h1) (accOf_ok h2) hk)
    · rename_i a b h1 h2 h3
      obtain ⟨i, hi⟩ := aggB_info h3
      cases hq : Nat.beq (sizeB P s) 1 with
      | false => exact OpOk.bad
      | true =>
        rw [sizeB_info hi] at hq
        exact OpOk.l rfl (rStore_ok hi (beq_eq hq) (accOf_ok h1) (accOf_ok h2) hk)
    · exact OpOk.bad
  | alloc e =>
    unfold decOp decD
    dsimp only
    cases hz : zeroB P e with
    | none => exact OpOk.bad
    | some z =>
      dsimp only
      generalize shapeB P e = ms
      obtain ⟨m, s⟩ := ms
      dsimp only
      cases hq : (Nat.beq (m * s) z.length && Nat.ble m 512 && Nat.ble s 64 && Nat.blt 0 s) with
      | false => exact OpOk.bad
      | true =>
        rw [Bool.and_eq_true, Bool.and_eq_true, Bool.and_eq_true] at hq
        exact OpOk.q rfl (rAlloc_ok hz (beq_eq hq.1.1.1) (Nat.le_of_ble_eq_true hq.1.1.2) (Nat.le_of_ble_eq_true hq.1.2) (blt_lt hq.2) hk)
  | box e x =>
    unfold decOp decD
    dsimp only
    split
    · rename_i a h1 h2
      cases hq : (Nat.beq (sizeB P e) 0 || Nat.blt 64 (sizeB P e)) with
      | true => exact OpOk.bad
      | false =>
        rw [Bool.or_eq_false_iff] at hq
        refine OpOk.q rfl (rBoxN_ok ?_ ?_ (accOf_ok h1) hk)
        · rcases Nat.eq_zero_or_pos (sizeB P e) with h0 | h0
          · rw [h0] at hq; cases hq.1
          · exact h0
        · rcases Nat.lt_or_ge 64 (sizeB P e) with h0 | h0
          · have := hq.2; rw [natBlt, decide_eq_true h0] at this; cases this
          · exact h0
    · rename_i a h1 h2
      exact OpOk.q rfl (rBox_ok (accOf_ok h1) hk)
    · exact OpOk.bad
  | fieldAddr s x f =>
    unfold decOp decD
    dsimp only
    split
    · rename_i a fs h1 h2
      cases hf : fs[f]? with
      | none => exact OpOk.bad
      | some fd =>
        dsimp only
        cases hq : Nat.beq (sizeB P fd.type) 0 with
        | true => exact OpOk.bad
        | false => exact OpOk.q rfl (rFieldAddr_ok h2 hf (fun h0 => by rw [h0] at hq; cases hq) (accOf_ok h1) hk)
    · exact OpOk.bad
  | field s x f =>
    unfold decOp decD
    dsimp only
    split
    · rename_i a fs h1 h2
      cases hf : fs[f]? with
      | none => exact OpOk.bad
      | some fd =>
        dsimp only
        cases hg : aggB P fd.type with
        | none => exact OpOk.bad
        | some q =>
          cases q with
          | true =>
            obtain ⟨i, hi⟩ := aggB_info hg
            dsimp only
            rw [sizeB_info hi]
            exact OpOk.q rfl (rFieldN_ok h2 hf hg hi (accOf_ok h1) hk)
          | false => exact OpOk.q rfl (rField_ok h2 hf hg (accOf_ok h1) hk)
    · exact OpOk.bad
  | extract x i =>
    unfold decOp decD
    dsimp only
    cases hx : accOf gl n x with
    | none => exact OpOk.bad
    | some a => exact OpOk.q rfl (rExtract_ok (accOf_ok hx) hk)
  | binOp op xt x y yt => exact binOf_ok hk
  | nilCheck x =>
    unfold decOp decD
    dsimp only
    cases hx : accOf gl n x with
    | none => exact OpOk.bad
    | some a => exact OpOk.q rfl (rNilCheck_ok (accOf_ok hx) hk)
  | unOp uo xt x =>
    cases uo with
    | not =>
      unfold decOp decD
      dsimp only
      cases hx : accOf gl n x with
      | none => exact OpOk.bad
      | some a => exact OpOk.q rfl (rNot_ok (accOf_ok hx) hk)
    | _ => exact slow_of (fun _ => rfl) (fun _ _ => rfl) hk
  | indexAddr s x y =>
    unfold decOp decD
    dsimp only
    split
    · rename_i a b e h1 h2 h3
      cases hq : Nat.beq (sizeB P e) 0 with
      | true => exact OpOk.bad
      | false =>
        cases hi : P.info? e with
        | none => unfold sizeB at hq; rw [hi] at hq; cases hq
        | some i =>
          rw [cond_false, sizeB_info hi]
          exact OpOk.q rfl (rIndexAddr_ok h3 hi (accOf_ok h1) (accOf_ok h2) hk)
    · rename_i a b len e h1 h2 h3
      cases hq : Nat.beq (sizeB P e) 0 with
      | true => exact OpOk.bad
      | false =>
        cases hi : P.info? e with
        | none => unfold sizeB at hq; rw [hi] at hq; cases hq
        | some i =>
          rw [cond_false, sizeB_info hi]
          exact OpOk.q rfl (rIndexArr_ok h3 hi (accOf_ok h1) (accOf_ok h2) hk)
    · exact slow_of (fun _ => rfl) (fun _ _ => rfl) hk
  | index s x y =>
    unfold decOp decD
    dsimp only
    split
    · rename_i a b h1 h2 h3
      exact OpOk.q rfl (rByte_ok h3 (accOf_ok h1) (accOf_ok h2) hk)
    · exact slow_of (fun _ => rfl) (fun _ _ => rfl) hk
  | build s ps =>
    unfold decOp decD
    dsimp only
    split
    · rename_i fs z h1 h2
      obtain ⟨i, v, g1, g2, g3, g4, g5, g6, g7, g8⟩ := zeroB_spec h2
      cases hq : (Nat.ble z.length 64 && (fs.toList.mapM fun f => (P.info? f.type).map fun i => (f.offset, i.size)).isSome) with
      | false => exact OpOk.bad
      | true =>
        rw [cond_true]
        rw [Bool.and_eq_true] at hq
        have h64 : z.length ≤ 64 := Nat.le_of_ble_eq_true hq.1
        obtain ⟨places, hpl⟩ := Option.isSome_iff_exists.1 hq.2
        split
        · rename_i b hb
          refine OpOk.q rfl (rBuild_ok (c0 := v.cells) (place' := (places.toArray[·]?)) h64 ⟨by rw [g4, g6], fun p hp => by rw [← Array.getElem?_toList, g3]; exact rowOf_up h64 g8 hp row0⟩ (fun i off t hi => ?_) hb (fun l => ?_) hk)
          · cases hf : fs[i]? with
            | none => rw [hf] at hi; cases hi
            | some f =>
              rw [hf] at hi
              injection hi with hi; injection hi with e1 e2; subst e1 e2
              have := mapM_at hpl (i := i) (f := f) (by rw [Array.getElem?_toList]; exact hf)
              obtain ⟨it, q1, q2⟩ := this
              show places.toArray[i]? = _
              rw [List.getElem?_toArray, q2, sizeB_info q1]
          · unfold Program.built
            rw [g1, h1]
            dsimp only
            rw [g2, hpl]
        · exact slow_of (fun _ => rfl) (fun _ _ => rfl) hk
    · rename_i len e z h1 h2
      obtain ⟨i, v, g1, g2, g3, g4, g5, g6, g7, g8⟩ := zeroB_spec h2
      cases hq : (Nat.ble z.length 64 && (P.info? e).isSome) with
      | false => exact OpOk.bad
      | true =>
        rw [cond_true]
        rw [Bool.and_eq_true] at hq
        have h64 : z.length ≤ 64 := Nat.le_of_ble_eq_true hq.1
        obtain ⟨ie, hie⟩ := Option.isSome_iff_exists.1 hq.2
        split
        · rename_i b hb
          refine OpOk.q rfl (rBuild_ok (c0 := v.cells) (place' := fun i => some (i * ie.size, ie.size)) h64 ⟨by rw [g4, g6], fun p hp => by rw [← Array.getElem?_toList, g3]; exact rowOf_up h64 g8 hp row0⟩ (fun i off t hi => ?_) hb (fun l => ?_) hk)
          · cases hb2 : Nat.blt i len with
            | false => rw [hb2] at hi; cases hi
            | true =>
              rw [hb2, cond_true] at hi
              injection hi with hi; injection hi with e1 e2; subst e1 e2
              rw [sizeB_info hie]
          · unfold Program.built
            rw [g1, h1]
            dsimp only
            rw [g2, hie]
        · exact slow_of (fun _ => rfl) (fun _ _ => rfl) hk
    · exact slow_of (fun _ => rfl) (fun _ _ => rfl) hk
  | convert src dstT x =>
    unfold decOp decD
    dsimp only
    split
    · rename_i e hs hd
      split
      · rename_i a i h1 he hi
        cases hq : (loudB ⟨dst, .convert src dstT x, ty, pos, after, guard⟩ && Nat.beq i.size 1) with
        | false => exact OpOk.bad
        | true =>
          rw [Bool.and_eq_true] at hq
          exact OpOk.l hq.1 (rBytes_ok hs hd he hi hq.2 (accOf_ok h1) hk)
      · exact OpOk.bad
    · rename_i hne
      refine ⟨fun _ => slow_ok (fun t _ _ => rfl) hk, fun _ => slowL_ok (fun t v A hk hq => ?_) hk⟩
      have hc : convA P src dstT (t x) A = none := by
        unfold convA
        split
        · rename_i e hs hd
          exact absurd hd (hne e hs)
        · rfl
      unfold opA
      rw [hk, cond_true]
      dsimp only
      rw [hc, hq]
  | buildSlice s len ps =>
    unfold decOp decD
    dsimp only
    split
    · rename_i e h1
      split
      · rename_i z b h2 h3
        cases hq : (Nat.ble len 512 && Nat.ble z.length 64) with
        | false => exact OpOk.bad
        | true =>
          rw [Bool.and_eq_true] at hq
          exact OpOk.q rfl (rBuildSlice_ok h1 h2 h3 (Nat.le_of_ble_eq_true hq.1) (Nat.le_of_ble_eq_true hq.2) hk)
      · exact OpOk.bad
    · exact OpOk.bad
  | makeFunc fn f c =>
    cases fn with
    | func g =>
      unfold decOp decD
      dsimp only
      split
      · rename_i a b h1 h2
        exact OpOk.q rfl (rFunc_ok h1 h2 hk)
      · exact OpOk.bad
    | _ => exact slow_of (fun _ => rfl) (fun _ _ => rfl) hk
  | slice s x lo hi mx =>
    cases mx with
    | some m =>
      cases lo with
      | some l => exact OpOk.bad
      | none =>
        cases hi with
        | none => exact OpOk.bad
        | some hi =>
          unfold decOp decD
          dsimp only
          split
          · rename_i e a h' m' h1 h2 h3 h4
            cases hi2 : P.info? e with
            | none => exact OpOk.bad
            | some i => exact OpOk.l rfl (rClip_ok h1 hi2 (accOf_ok h2) h3 h4 hk)
          · exact OpOk.bad
    | none =>
      unfold decOp decD
      dsimp only
      have slow : OpOk P B w0 n ⟨dst, .slice s x lo hi none, ty, pos, after, guard⟩ (slowOf P n ⟨dst, .slice s x lo hi none, ty, pos, after, guard⟩) := by
        refine OpOk.q rfl (slow_ok (fun t v hq => ?_) hk)
        have hq' : (match t x with | .slice _ _ _ => none | _ => freeQ P t ⟨dst, .slice s x lo hi none, ty, pos, after, guard⟩) = some v := hq
        show (match t x with | .slice _ _ _ => Cls.mem | _ => Cls.pure) = _
        split at hq'
        · cases hq'
        · rfl
      split
      · rename_i e a l h h1 h2 h3 h4
        cases hi2 : P.info? e with
        | none => exact OpOk.bad
        | some i => exact OpOk.q rfl (rSlice_ok h1 hi2 (accOf_ok h2) h3 h4 hk)
      · rename_i a l h h1 h2 h3 h4
        exact OpOk.q rfl (rSub_ok h1 (accOf_ok h2) h3 h4 hk)
      · exact slow
  | call c =>
    obtain ⟨callee, args, ts⟩ := c
    cases callee with
    | invoke r m => exact slow_of (fun _ => rfl) (fun _ _ => rfl) hk
    | value f =>
      unfold decOp decD
      dsimp only
      have gen : OpOk P B w0 n ⟨dst, .call ⟨.value f, args, ts⟩, ty, pos, after, guard⟩ (OpD.get (match accOf gl n f, ahOf gl n args.toList with | some a, some s => .mk (rCallV P a s) | _, _ => .mk rBad)) := by
        split
        · rename_i a s h1 h2
          exact OpOk.l rfl (rCallV_ok (accOf_ok h1) h2 hk)
        · exact OpOk.bad
      cases f with
      | func g =>
        dsimp only
        cases h0 : bldD gl P n g args.toList with
        | some d => exact OpOk.l rfl (bldD_ok h0 hk)
        | none =>
          dsimp only
          cases h00 : cloneD gl P n g args.toList with
          | some d => exact OpOk.l rfl (cloneD_ok h00 hk)
          | none =>
            dsimp only
            cases h1 : agOf gl n args.toList 0 with
            | none => exact OpOk.bad
            | some s =>
              dsimp only
              cases hb : hasB P g with
              | false => exact OpOk.bad
              | true => exact OpOk.l rfl (rCallF_ok h1 hb hk)
      | tmp d => exact gen
      | const v => exact gen
      | global g => exact gen
    | builtin b =>
      cases b with
      | copy =>
        unfold decOp decD
        dsimp only
        split
        · rename_i x y t u h1 h2
          split
          · rename_i a b e e2 h3 h4 h5 h6
            split
            · rename_i z i h7 h8
              obtain ⟨i2, v, g1, g2, g3, g4, g5, g6, g7, g8⟩ := zeroB_spec h7
              rw [h8] at g1; injection g1 with g1; subst g1
              cases h64 : Nat.ble i.size 64 with
              | false => exact OpOk.bad
              | true =>
                rw [cond_true, g7]
                exact OpOk.l rfl (rCopy_ok h1 h2 h5 h6 h8 g5 (Nat.le_of_ble_eq_true h64) (accOf_ok h3) (accOf_ok h4) hk)
            · exact OpOk.bad
          · exact OpOk.bad
        · exact OpOk.bad
      | append =>
        unfold decOp decD
        dsimp only
        split
        · rename_i x y t u h1 h2
          cases htu : Nat.beq t u with
          | false =>
            rw [cond_false]
            split
            · rename_i a b e h3 h4 h5 h5u
              split
              · rename_i z i h6 h7
                obtain ⟨i2, v, g1, g2, g3, g4, g5, g6, g7, g8⟩ := zeroB_spec h6
                rw [h7] at g1; injection g1 with g1; subst g1
                cases h64 : Nat.beq i.size 1 with
                | false => exact OpOk.bad
                | true =>
                  rw [cond_true]
                  exact OpOk.l rfl (rAppStr_ok h1 h2 htu h5 h5u h7 g2 g4 h64 (accOf_ok h3) (accOf_ok h4) hk)
              · exact OpOk.bad
            · rename_i a b e uk h3 h4 h5 h5u
              split
              · rename_i z i h6 h7
                cases h64 : Nat.ble z.length 64 with
                | false => exact OpOk.bad
                | true =>
                  rw [cond_true]
                  exact OpOk.l rfl (rAppMk_ok h1 h2 htu h5 h5u h6 h7 (Nat.le_of_ble_eq_true h64) (accOf_ok h3) (accOf_ok h4) hk)
              · exact OpOk.bad
            · exact OpOk.bad
          | true =>
            rw [cond_true]
            obtain rfl := beq_eq htu
            split
            · rename_i a b e h3 h4 h5
              split
              · rename_i z i h6 h7
                obtain ⟨i2, v, g1, g2, g3, g4, g5, g6, g7, g8⟩ := zeroB_spec h6
                rw [h7] at g1; injection g1 with g1; subst g1
                cases h64 : Nat.ble i.size 64 with
                | false => exact OpOk.bad
                | true =>
                  rw [cond_true, g7]
                  exact OpOk.l rfl (rAppend_ok h1 h2 h5 h7 g2 g4 g5 (Nat.le_of_ble_eq_true h64) (accOf_ok h3) (accOf_ok h4) hk)
              · exact OpOk.bad
            · exact OpOk.bad
        · exact OpOk.bad
      | clear =>
        unfold decOp decD
        dsimp only
        split
        · rename_i x t h1 h2
          split
          · rename_i a e h3 h4
            split
            · rename_i z h5
              cases hq : Nat.ble z.length 64 with
              | false => exact OpOk.bad
              | true =>
                rw [cond_true]
                exact OpOk.l rfl (rClear_ok h1 h2 h4 h5 (Nat.le_of_ble_eq_true hq) (accOf_ok h3) hk)
            · exact OpOk.bad
          · exact OpOk.bad
        · exact OpOk.bad
      | delete =>
        unfold decOp decD
        dsimp only
        split
        · rename_i x y t u h1 h2
          split
          · rename_i a b kt e h3 h4 h5
            split
            · rename_i str h6
              exact OpOk.l rfl (rDelete_ok h1 h2 h5 h6 (accOf_ok h3) (accOf_ok h4) hk)
            · exact OpOk.bad
          · exact OpOk.bad
        · exact OpOk.bad
      | len =>
        unfold decOp decD
        dsimp only
        split
        · rename_i x t h1 h2
          split
          · rename_i a d e h3 h4
            exact OpOk.q rfl (rLenC_ok h1 h2 h4 (accOf_ok h3) hk)
          · rename_i a e h3 h4
            exact OpOk.q rfl (rLen_ok h1 h2 h4 (accOf_ok h3) hk)
          · rename_i a h3 h4
            exact OpOk.q rfl (rLenS_ok h1 h2 h4 (accOf_ok h3) hk)
          · rename_i a kt e h3 h4
            exact OpOk.q rfl (rLenM_ok h1 h2 h4 (accOf_ok h3) hk)
          · exact OpOk.bad
        · exact OpOk.bad
      | _ => exact slow_of (fun _ => rfl) (fun _ _ => rfl) hk
  | makeMap mt r =>
    cases r with
    | some r => exact slow_of (fun _ => rfl) (fun _ _ => rfl) hk
    | none => exact OpOk.l rfl (rMakeMap_ok hk)
  | makeSlice st x y =>
    unfold decOp decD
    dsimp only
    split
    · rename_i e a b h1 h2 h3
      split
      · rename_i z i h4 h5
        cases hq : Nat.ble z.length 64 with
        | false => exact OpOk.bad
        | true => exact OpOk.q rfl (rMakeSlice_ok h1 h4 h5 (Nat.le_of_ble_eq_true hq) (accOf_ok h2) (accOf_ok h3) hk)
      · exact OpOk.bad
    · exact OpOk.bad
  | lookup mt x y ok =>
    unfold decOp decD
    dsimp only
    split
    · rename_i kt e a b h1 h2 h3
      split
      · rename_i str ie h4 h5
        cases hz : ie.zero with
        | none => exact OpOk.bad
        | some z =>
          dsimp only
          cases hq : svOk z with
          | false => exact OpOk.bad
          | true => exact OpOk.l rfl (rLookup_ok h1 h4 h5 hz (svOf_up hq) (accOf_ok h2) (accOf_ok h3) hk)
      · exact OpOk.bad
    · exact OpOk.bad
  | makeChan ct x =>
    unfold decOp decD
    dsimp only
    split
    · rename_i dr e a h1 h2
      split
      · rename_i ie h3
        cases hq : Nat.ble ie.bytes 1024 with
        | false => exact OpOk.bad
        | true => exact OpOk.l rfl (rMakeChan_ok h1 h3 hq (accOf_ok h2) hk)
      · exact OpOk.bad
    · exact OpOk.bad
  | mapEntry mt x y =>
    unfold decOp decD
    dsimp only
    split
    · rename_i kt e a b h1 h2 h3
      split
      · rename_i str ie h4 h5
        cases hz : ie.zero with
        | none => exact OpOk.bad
        | some z =>
          dsimp only
          cases hq : svOk z with
          | false => exact OpOk.bad
          | true => exact OpOk.l rfl (rMapEntry_ok h1 h4 h5 hz (svOf_up hq) (accOf_ok h2) (accOf_ok h3) hk)
      · exact OpOk.bad
    · exact OpOk.bad
  | entryStore mt x y z =>
    unfold decOp decD
    dsimp only
    split
    · rename_i a b c h1 h2 h3
      exact OpOk.l rfl (rEntryStore_ok (accOf_ok h1) (accOf_ok h2) (accOf_ok h3) hk)
    · exact OpOk.bad
  | mapUpdate mt x y z =>
    unfold decOp decD
    dsimp only
    split
    · rename_i kt e a b c h1 h2 h3 h4
      split
      · rename_i str h5
        exact OpOk.l rfl (rMapUpdate_ok (q := false) h1 h5 (accOf_ok h2) (accOf_ok h3) (accOf_ok h4) hk)
      · exact OpOk.bad
    · exact OpOk.bad
  | range rt x =>
    unfold decOp decD
    dsimp only
    split
    · rename_i kt e a h1 h2
      exact OpOk.l rfl (rRange_ok h1 (accOf_ok h2) hk)
    · rename_i a h1 h2
      exact OpOk.l rfl (rRangeS_ok h1 (accOf_ok h2) hk)
    · exact OpOk.bad
  | next x q =>
    cases q with
    | false =>
      unfold decOp decD
      dsimp only
      cases hx : accOf gl n x with
      | none => exact OpOk.bad
      | some a => exact OpOk.l rfl (rNext_ok (accOf_ok hx) hk)
    | true =>
      unfold decOp decD
      dsimp only
      cases hx : accOf gl n x with
      | none => exact OpOk.bad
      | some a => exact OpOk.l rfl (rNextS_ok (accOf_ok hx) hk)
  | entry x =>
    unfold decOp decD
    dsimp only
    cases hx : accOf gl n x with
    | none => exact OpOk.bad
    | some a => exact OpOk.l (by rfl) (rEntry_ok (accOf_ok hx) hk)
  | insert mt x y z =>
    unfold decOp decD
    dsimp only
    split
    · rename_i kt e a b c h1 h2 h3 h4
      split
      · rename_i str h5
        exact OpOk.l rfl (rMapUpdate_ok (q := true) h1 h5 (accOf_ok h2) (accOf_ok h3) (accOf_ok h4) hk)
      · exact OpOk.bad
    · exact OpOk.bad
  | _ => exact slow_of (fun _ => rfl) (fun _ _ => rfl) hk
end
end
end Go.Proofs.YtfeppmhcpfccfaaGreatDoor.Fast
/- A fast evaluator, part M: regions. Of no program. -/
namespace Go.Proofs.YtfeppmhcpfccfaaGreatDoor.Fast
open Go Go.RowKit Go.Proofs.YtfeppmhcpfccfaaGreatDoor.Sim
noncomputable section

/-- what one slot reads as another reads -/
theorem eqF_up {x y : FV} (h : eqF x y = true) : x.up = y.up := by
  unfold eqF at h
  split at h
  · rename_i a b
    cases a <;> cases b <;> first | rfl | cases h
  · rename_i i a j b
    rw [Bool.and_eq_true] at h
    obtain rfl := kix_inj h.1
    have := h.2
    rw [intEq_eq] at this
    rw [of_decide_eq_true this]
  · rename_i n z m w
    rw [Bool.and_eq_true] at h
    rw [beq_eq h.1, beq_eq h.2]
  · rename_i b o c p
    rw [Bool.and_eq_true] at h
    rw [beq_eq h.1, beq_eq h.2]
  · rename_i b o n c b' o' n' c'
    rw [Bool.and_eq_true, Bool.and_eq_true, Bool.and_eq_true] at h
    rw [beq_eq h.1.1.1, beq_eq h.1.1.2, beq_eq h.1.2, beq_eq h.2]
  · rename_i n c m d
    rw [Bool.and_eq_true] at h
    rw [beq_eq h.1, beq_eq h.2]
  · rename_i g f c g' f' c'
    rw [Bool.and_eq_true, Bool.and_eq_true] at h
    rw [beq_eq h.1.1, eqL_eq (eqV_eq 8) h.1.2, eqL_eq (eqV_eq 8) h.2]
  · rw [beq_eq h]
  · rw [eqV_eq 8 _ _ h]
  · cases h
theorem eqRow_up : ∀ (m i : Nat) (f g : Ro), i + m ≤ 64 → eqRow m i f g = true → ∀ p, i ≤ p → p < i + m → (Lr.get p f).up = (Lr.get p g).up
  | 0, i, f, g, _, _, p, h1, h2 => by omega
  | m + 1, i, f, g, hm, h, p, h1, h2 => by
    have h' : (eqF ((w64 FV i).get f) ((w64 FV i).get g) && eqRow m (i + 1) f g) = true := h
    rw [Bool.and_eq_true, w64_get (by omega), w64_get (by omega)] at h'
    by_cases hp : p = i
    · subst hp; exact eqF_up h'.1
    · exact eqRow_up m (i + 1) f g (by omega) h'.2 p (by omega) (by omega)
theorem eqS_up {x y : SV} (h : eqS x y = true) : x.up = y.up := by
  unfold eqS at h
  split at h
  · rename_i a b; exact eqF_up h
  · rename_i n f m g
    rw [Bool.and_eq_true, Bool.and_eq_true] at h
    obtain ⟨⟨h1, h2⟩, h3⟩ := h
    obtain rfl := beq_eq h1
    have h64 : n ≤ 64 := Nat.le_of_ble_eq_true h2
    show Value.agg ⟨rowL f n⟩ = .agg ⟨rowL g n⟩
    congr 2
    apply List.ext_getElem?
    intro p
    rw [rowL_get, rowL_get]
    by_cases hp : p < n
    · rw [if_pos hp, if_pos hp, eqRow_up n 0 f g (by omega) h3 p (by omega) (by omega)]
    · rw [if_neg hp, if_neg hp]
  · cases h
section
variable {P : Program} {B : Nat} {w0 : Base} {n : Nat} {gl : Nat → Bool} {ops : Array Oper}
theorem accOf_okX {x : Operand} {a : Acc} (h : accOf gl n x = some a) : okX x = true ∧ glX gl x = true := by
  cases x with
  | tmp d => exact ⟨rfl, rfl⟩
  | func f => exact ⟨rfl, rfl⟩
  | const v =>
    unfold accOf at h
    dsimp only at h
    cases hq : free v && svOk v with
    | false => rw [hq] at h; cases h
    | true => rw [Bool.and_eq_true] at hq; exact ⟨hq.1, rfl⟩
  | global g =>
    unfold accOf at h
    dsimp only at h
    cases hq : gl g with
    | false => rw [hq] at h; cases h
    | true => exact ⟨rfl, hq⟩
theorem stepW_mono {t : Array Value} {o : Oper} {A : AW} {K K' : Value → AW → Prop} (h : stepW P B w0 t o A K) (hK : ∀ v A, K v A → K' v A) : stepW P B w0 t o A K' := by
  refine ⟨h.1, ?_⟩
  have := h.2
  cases hq : opA P (ev t) o A with
  | none =>
    rw [hq] at this
    obtain ⟨k1, x, k2, k3, k4⟩ := this
    exact ⟨k1, x, k2, k3, fun p hp => hK _ _ (k4 p hp)⟩
  | some x =>
    obtain ⟨m, A'⟩ := x
    rw [hq] at this
    cases m with
    | val v => exact hK _ _ this
    | skip => exact hK _ _ this
    | enter f args =>
      intro Γ M ρ w args' h1 h2
      refine (this Γ M ρ w args' h1 h2).mono ?_
      rintro e w' ⟨ρ', v, v', A2, g1, g2, g3, g4, g5⟩
      exact ⟨ρ', v, v', A2, g1, hK _ _ g2, g3, g4, g5⟩
    | round b tm a c =>
      intro Γ M ρ w tm' i f h1 h2 h3
      refine (this Γ M ρ w tm' i f h1 h2 h3).mono ?_
      rintro e w' ⟨ρ', v, v', A2, g1, g2, g3, g4, g5⟩
      exact ⟨ρ', v, v', A2, g1, hK _ _ g2, g3, g4, g5⟩
theorem quietW_mono {t : Array Value} {o : Oper} {A : AW} {K K' : Value → AW → Prop} (h : quietW P gl t o A K) (hK : ∀ v A, K v A → K' v A) : quietW P gl t o A K' := by
  refine ⟨h.1, ?_⟩
  have := h.2
  cases hq : quietA P (ev t) A o with
  | none => rw [hq] at this; exact this
  | some q =>
    rw [hq] at this
    cases q with
    | val v => exact hK _ _ this
    | ghost c e m => exact ⟨this.1, this.2.1, hK _ _ this.2.2⟩
theorem CodeS_mono {c : Code} {t : Array Value} {A : AW} {K K' : AE → Array Value → AW → Prop} (h : CodeS P B w0 c t A K) (hK : ∀ e t A, K e t A → K' e t A) : CodeS P B w0 c t A K' :=
  fun Q ds Γ M ρ w t' hs ht hQ => h Q ds Γ M ρ w t' hs ht fun e ρ' t1 A1 t2 w' M1 g0 g1 g2 g3 => hQ e ρ' t1 A1 t2 w' M1 (hK _ _ _ g0) g1 g2 g3
/-- how things stand behind an operation -/
def KK (n : Nat) (k : Sl → FM → R) (t : Array Value) (A : AW) : Prop := ∃ S F, SlR S t ∧ n ≤ t.size ∧ MR F A ∧ k S F = true
theorem rGuard_true {g : Acc} {want : Bool} {c : Op1} {rec : Rc} {L : Sl} {F : FM} {k : SV → FM → R} (h : rGuard g want c rec L F k = true) : ((g L).up = .bool want ∧ c rec L F k = true) ∨ ((∀ q, (g L).up = .bool q → q ≠ want) ∧ k u0 F = true) := by
  unfold rGuard at h
  cases hg : g L with
  | val v =>
    rw [hg] at h
    have h' : guardV v want (c rec L F k) (k u0 F) = true := h
    cases v with
    | bool q =>
      cases q <;> cases want <;> first
        | exact .inl ⟨rfl, h'⟩
        | exact .inr ⟨fun q hq => by { injection hq with hq; subst hq; decide }, h'⟩
    | val v => exact not_bad h'
    | _ => exact .inr ⟨fun q hq => (by cases hq), h'⟩
  | row m f => rw [hg] at h; exact .inr ⟨fun q hq => (by cases hq), h⟩
  | nil => rw [hg] at h; exact .inr ⟨fun q hq => (by cases hq), h⟩
  | cons a b => rw [hg] at h; exact .inr ⟨fun q hq => (by cases hq), h⟩
theorem guardOf_true {o : Oper} {c : Op1} {rec : Rc} {L : Sl} {F : FM} {k : SV → FM → R} {t : Array Value} (hL : SlR L t) (hn : n ≤ t.size) (h : guardOf n ops o c rec L F k = true) : (Region.wanted o (yielded ops t) = true ∧ c rec L F k = true) ∨ (Region.wanted o (yielded ops t) = false ∧ k u0 F = true) := by
  unfold guardOf at h
  unfold Region.wanted
  cases hg : o.guard with
  | none => rw [hg] at h; exact .inl ⟨rfl, h⟩
  | some gw =>
    obtain ⟨g, want⟩ := gw
    rw [hg] at h
    dsimp only at h ⊢
    cases hq : ops[g]? with
    | none => rw [hq] at h; exact not_bad h
    | some q =>
      rw [hq] at h
      dsimp only at h
      cases hd : q.dst with
      | none => rw [hd] at h; exact not_bad h
      | some d =>
        rw [hd] at h
        dsimp only at h
        cases ha : accT n d with
        | none => rw [ha] at h; exact not_bad h
        | some a =>
          rw [ha] at h
          have hv := accT_ok ha L t hL hn
          have hlt : d < t.size := by
            rw [accT_def] at ha
            cases hb : (Nat.blt d n && Nat.ble n 512) with
            | false => rw [hb] at ha; cases ha
            | true => rw [Bool.and_eq_true] at hb; exact Nat.lt_of_lt_of_le (blt_lt hb.1) hn
          have hget : t[d]? = some (a L).up := by
            have h1 := hL.get d hlt
            have h2 : ev t (.tmp d) = (t[d]?).getD undef := by
              show t.getD d undef = _
              rw [Array.getD_eq_getD_getElem?]
            rw [hv, h2, h1]
            rfl
          have hy : yielded ops t g = (match (a L).up with | .bool b => some b | _ => none) := by
            unfold yielded
            rw [hq]
            simp only [Option.bind_some, hd]
            rw [hget]
            cases (a L).up <;> rfl
          rcases rGuard_true h with ⟨h1, h2⟩ | ⟨h1, h2⟩
          · refine .inl ⟨?_, h2⟩
            rw [hy, h1]
            simp
          · refine .inr ⟨?_, h2⟩
            rw [hy]
            generalize (a L).up = u at h1
            cases u with
            | bool b =>
              have := h1 b rfl
              simp [this]
            | _ => rfl
/-- one operation, its slot written -/
theorem putS_true {d : Option Tmp} {c : Op1} {rec : Rc} {L : Sl} {F : FM} {k : Sl → FM → R} {t : Array Value} (hL : SlR L t) (hn : n ≤ t.size) (hd : dstB n d = true) (h5 : n ≤ 512) (h : putS d c rec L F k = true) : ∃ k' : SV → FM → R, c rec L F k' = true ∧ ∀ v A, Post k' v A → KK n k (putA t d v) A := by
  cases d with
  | none =>
    refine ⟨fun _ F => k L F, h, ?_⟩
    rintro v A ⟨sv, F', _, h2, h3⟩
    exact ⟨L, F', hL, hn, h2, h3⟩
  | some d =>
    have hdn : d < n := blt_lt hd
    refine ⟨fun v F => (w512 SV d).put v L fun L => k L F, h, ?_⟩
    rintro v A ⟨sv, F', h1, h2, h3⟩
    have h3' : (w512 SV d).put sv L (fun L => k L F') = true := h3
    rw [w512_put (Nat.lt_of_lt_of_le hdn h5)] at h3'
    exact ⟨_, F', hL.put (Nat.lt_of_lt_of_le hdn hn) h1, by show n ≤ (t.setIfInBounds d v).size; rw [Array.size_setIfInBounds]; exact hn, h2, h3'⟩
theorem stepOf_true {i : Nat} {rec : Rc} {L : Sl} {F : FM} {k : Sl → FM → R} (h : stepOf gl P n ops i rec L F k = true) : ∃ o, ops[i]? = some o ∧ dstB n o.dst = true ∧ n ≤ 512 ∧ okOp o = true ∧ glOp gl o = true ∧ ghOk o = true ∧ putS o.dst (guardOf n ops o (decOp gl P n o)) rec L F k = true := by
  unfold stepOf at h
  cases ho : ops[i]? with
  | none => rw [ho] at h; exact not_bad h
  | some o =>
    rw [ho] at h
    dsimp only at h
    cases hq : (dstB n o.dst && Nat.ble n 512 && okOp o && glOp gl o && ghOk o) with
    | false => rw [hq] at h; exact not_bad h
    | true =>
      rw [hq, cond_true] at h
      rw [Bool.and_eq_true, Bool.and_eq_true, Bool.and_eq_true, Bool.and_eq_true] at hq
      exact ⟨o, rfl, hq.1.1.1.1, Nat.le_of_ble_eq_true hq.1.1.1.2, hq.1.1.2, hq.1.2, hq.2, h⟩
theorem quietA_ghost_op {t : Operand → Value} {A : AW} {o : Oper} {c : Array Value} {e : TypeId} {m : Option (Nat × Nat)} (h : quietA P t A o = some (.ghost c e m)) (hg : ghOk o = true) : o.dst.isSome = true := by
  have hc : cls t o = .ghost := by
    unfold quietA at h
    cases hk : okOp o with
    | false => rw [hk] at h; cases h
    | true =>
      rw [hk, cond_true] at h
      cases hc : cls t o with
      | ghost => rfl
      | pure => rw [hc] at h; dsimp only at h; cases hx : opQ P t o <;> rw [hx] at h <;> cases h
      | mem => rw [hc] at h; dsimp only at h; cases hx : opM P t A o <;> rw [hx] at h <;> cases h
  unfold ghOk at hg
  unfold cls at hc
  split at hg
  · exact hg
  · exact hg
  · exact hg
  · exact hg
  · rename_i h1 h2 h3 h4
    split at hc
    · cases hc
    · split at hc <;> cases hc
    · rename_i he; exact absurd he (h1 _)
    · rename_i he; exact absurd he (h2 _ _)
    · rename_i he; exact absurd he (h3 _ _ _)
    · rename_i he; exact absurd he (h4 _ _ _)
    · split at hc
      · split at hc <;> cases hc
      · cases hc
    · cases hc
theorem quiet_step {o : Oper} (hl : loudB o = false) (hd : dstB n o.dst = true) (hk : okOp o = true) (hg : glOp gl o = true) (hgh : ghOk o = true) {rec : Rc} {L : Sl} {F : FM} {k : SV → FM → R} {t : Array Value} {A : AW} (hL : SlR L t) (hn : n ≤ t.size) (hM : MR F A) (h : decOp gl P n o rec L F k = true) {K : Value → AW → Prop} (hK : ∀ v A, Post k v A → K v A) : quietW P gl t o A K := by
  refine ⟨hg, ?_⟩
  have := (decOp_ok (P := P) (B := 0) (w0 := default) (n := n) (gl := gl) hk).1 hl rec L F k t A hL hn hM h
  cases hq : quietA P (ev t) A o with
  | none => rw [hq] at this; exact this
  | some q =>
    rw [hq] at this
    cases q with
    | val v => exact hK _ _ this
    | ghost c e m =>
      refine ⟨this.1, ?_, hK _ _ this.2⟩
      have hs := quietA_ghost_op hq hgh
      cases hdd : o.dst with
      | none => rw [hdd] at hs; cases hs
      | some d =>
        rw [hdd] at hd
        have hdn : d < n := blt_lt hd
        exact Nat.ble_eq_true_of_le (Nat.lt_of_lt_of_le hdn hn)
theorem loud_step {o : Oper} (hl : loudB o = true) (hk : okOp o = true) (hg : glOp w0.gl o = true) {rec : Rc} (hR : RcOk P B w0 rec) {L : Sl} {F : FM} {k : SV → FM → R} {t : Array Value} {A : AW} (hL : SlR L t) (hn : n ≤ t.size) (hM : MR F A) (h : decOp w0.gl P n o rec L F k = true) {K : Value → AW → Prop} (hK : ∀ v A, Post k v A → K v A) : stepW P B w0 t o A K := by
  refine ⟨hg, ?_⟩
  have := (decOp_ok (P := P) (B := B) (w0 := w0) (n := n) (gl := w0.gl) hk).2 hl rec L F k t A hR hL hn hM h
  cases hq : opA P (ev t) o A with
  | none =>
    rw [hq] at this
    obtain ⟨k1, x, k2, k3, k4⟩ := this
    exact ⟨k1, x, k2, k3, fun p hp => hK _ _ (k4 p hp)⟩
  | some x =>
    obtain ⟨m, A'⟩ := x
    rw [hq] at this
    cases m with
    | val v => exact hK _ _ this
    | skip => exact hK _ _ this
    | enter f args =>
      intro Γ M ρ w args' h1 h2
      refine (this Γ M ρ w args' h1 h2).mono ?_
      rintro e w' ⟨ρ', v, v', A2, g1, g2, g3, g4, g5⟩
      exact ⟨ρ', v, v', A2, g1, hK _ _ g2, g3, g4, g5⟩
    | round b tm a c =>
      intro Γ M ρ w tm' i f h1 h2 h3
      refine (this Γ M ρ w tm' i f h1 h2 h3).mono ?_
      rintro e w' ⟨ρ', v, v', A2, g1, g2, g3, g4, g5⟩
      exact ⟨ρ', v, v', A2, g1, hK _ _ g2, g3, g4, g5⟩
/-- what was read is read again -/
theorem againOf_true : ∀ (re : List Nat) {rec : Rc} {L : Sl} {F : FM} {k : Sl → FM → R} {t : Array Value} {A : AW}, SlR L t → n ≤ t.size → MR F A → againOf gl P n ops re rec L F k = true → againP P ops t A re ∧ KK n k t A
  | [], rec, L, F, k, t, A, hL, hn, hM, h => ⟨fun j hj => (by cases hj), L, F, hL, hn, hM, h⟩
  | j :: l, rec, L, F, k, t, A, hL, hn, hM, h => by
    unfold againOf at h
    cases ho : ops[j]? with
    | none => rw [ho] at h; exact not_bad h
    | some o =>
      rw [ho] at h
      dsimp only at h
      cases hd : o.dst with
      | none => rw [hd] at h; exact not_bad h
      | some d =>
        rw [hd] at h
        dsimp only at h
        cases ha : accT n d with
        | none => rw [ha] at h; exact not_bad h
        | some a =>
          rw [ha] at h
          dsimp only at h
          cases hq : (okOp o && glOp gl o && memK o && !loudB o) with
          | false => rw [hq] at h; exact not_bad h
          | true =>
            rw [hq, cond_true] at h
            rw [Bool.and_eq_true, Bool.and_eq_true, Bool.and_eq_true, Bool.not_eq_true'] at hq
            obtain ⟨⟨⟨hk, hgl⟩, hmem⟩, hl⟩ := hq
            have fin : ∀ {F : FM}, MR F A → pass (againOf gl P n ops l rec L F k) = true → againP P ops t A l ∧ KK n k t A := fun hM h => againOf_true l hL hn hM h
            rcases guardOf_true hL hn h with ⟨hw, h1⟩ | ⟨hw, h1⟩
            · have hdec := (decOp_ok (P := P) (B := 0) (w0 := default) (n := n) (gl := gl) hk).1 hl rec L F _ t A hL hn hM h1
              cases hqa : quietA P (ev t) A o with
              | none => rw [hqa] at hdec; exact hdec.elim
              | some q =>
                rw [hqa] at hdec
                cases q with
                | ghost c e m => rw [quietA_ghost_mem hqa] at hmem; cases hmem
                | val v =>
                  obtain ⟨sv, F', g1, g2, g3⟩ := hdec
                  obtain ⟨g4, g5⟩ := ifK_true g3
                  obtain ⟨f1, f2⟩ := fin g2 g5
                  refine ⟨fun j2 hj2 o2 ho2 hw2 => ?_, f2⟩
                  rcases List.mem_cons.1 hj2 with rfl | hj2
                  · rw [ho] at ho2; injection ho2 with ho2; subst ho2
                    refine ⟨v, hqa, fun i x hi hx => ?_⟩
                    rw [hd] at hi; injection hi with hi; subst hi
                    have e1 := eqS_up g4
                    have e2 := accT_ok ha L t hL hn
                    have e3 : ev t (.tmp d) = x := by
                      show t.getD d undef = x
                      rw [Array.getD_eq_getD_getElem?, hx]; rfl
                    rw [← e3, ← e2, ← e1, g1]
                  · exact f1 j2 hj2 o2 ho2 hw2
            · obtain ⟨f1, f2⟩ := fin hM h1
              refine ⟨fun j2 hj2 o2 ho2 hw2 => ?_, f2⟩
              rcases List.mem_cons.1 hj2 with rfl | hj2
              · rw [ho] at ho2; injection ho2 with ho2; subst ho2
                rw [hw] at hw2; cases hw2
              · exact f1 j2 hj2 o2 ho2 hw2
end
end
end Go.Proofs.YtfeppmhcpfccfaaGreatDoor.Fast
/- A fast evaluator, part P: two stores in either order. Of no program. -/
namespace Go.Proofs.YtfeppmhcpfccfaaGreatDoor.Fast
open Go Go.RowKit Go.Proofs.YtfeppmhcpfccfaaGreatDoor.Sim
noncomputable section
/-- so many cells are other ones -/
structure Upd (A A' : AW) (b o : Nat) (l : List Value) : Prop where
  next : A'.next = A.next
  other : ∀ d, d ≠ b → A'.heap.get d = A.heap.get d
  blk : ∃ (c c' : Array Value) (e : TypeId) (f : Nat × Nat) (fam : Bool), A.heap.get b = some ⟨.cells c e f, fam, false⟩ ∧ A'.heap.get b = some ⟨.cells c' e f, fam, false⟩ ∧ c'.size = c.size ∧ ∀ p : Nat, c'[p]? = if o ≤ p ∧ p < o + l.length then l[p - o]? else c[p]?
theorem Upd.swap {A A1 A2 A12 A21 : AW} {b o b2 o2 : Nat} {l l2 : List Value} (h1 : Upd A A1 b o l) (h2 : Upd A1 A12 b2 o2 l2) (h3 : Upd A A2 b2 o2 l2) (h4 : Upd A2 A21 b o l) (ap : b ≠ b2 ∨ o + l.length ≤ o2 ∨ o2 + l2.length ≤ o) : A21.next = A12.next ∧ ∀ d, A21.heap.get d = A12.heap.get d := by
  refine ⟨by rw [h4.next, h3.next, h2.next, h1.next], fun d => ?_⟩
  by_cases hbb : b = b2
  · subst hbb
    by_cases hd : d = b
    · subst hd
      obtain ⟨c, c1, e, f, fam, q1, q2, q3, q4⟩ := h1.blk
      obtain ⟨c', c12, e', f', fam', r1, r2, r3, r4⟩ := h2.blk
      obtain ⟨c'', c2, e'', f'', fam'', s1, s2, s3, s4⟩ := h3.blk
      obtain ⟨c3, c21, e3, f3, fam3, u1, u2, u3, u4⟩ := h4.blk
      rw [q2] at r1
      injection r1 with r1
      injection r1 with r1 r5
      injection r1 with r1 r6 r7
      subst r1 r5 r6 r7
      rw [q1] at s1
      injection s1 with s1
      injection s1 with s1 s5
      injection s1 with s1 s6 s7
      subst s1 s5 s6 s7
      rw [s2] at u1
      injection u1 with u1
      injection u1 with u1 u5
      injection u1 with u1 u6 u7
      subst u1 u5 u6 u7
      rw [u2, r2]
      have hc : c21 = c12 := by
        apply Array.ext_getElem?
        intro p
        rw [u4 p, r4 p, s4 p, q4 p]
        by_cases p1 : o ≤ p ∧ p < o + l.length
        · rw [if_pos p1, if_pos p1]
          by_cases p2 : o2 ≤ p ∧ p < o2 + l2.length
          · exfalso
            rcases ap with ap | ap | ap
            · exact ap rfl
            · omega
            · omega
          · rw [if_neg p2]
        · rw [if_neg p1, if_neg p1]
      rw [hc]
    · rw [h4.other d hd, h3.other d hd, h2.other d hd, h1.other d hd]
  · by_cases hd : d = b
    · subst hd
      rw [h2.other d hbb]
      obtain ⟨c, c1, e, f, fam, q1, q2, q3, q4⟩ := h1.blk
      obtain ⟨c3, c21, e3, f3, fam3, u1, u2, u3, u4⟩ := h4.blk
      rw [h3.other d hbb, q1] at u1
      injection u1 with u1
      injection u1 with u1 u5
      injection u1 with u1 u6 u7
      subst u1 u5 u6 u7
      rw [u2, q2]
      have hc : c21 = c1 := by
        apply Array.ext_getElem?
        intro p
        rw [u4 p, q4 p]
      rw [hc]
    · by_cases hd2 : d = b2
      · subst hd2
        rw [h4.other d hd]
        obtain ⟨c', c12, e', f', fam', r1, r2, r3, r4⟩ := h2.blk
        obtain ⟨c'', c2, e'', f'', fam'', s1, s2, s3, s4⟩ := h3.blk
        rw [h1.other d hd, s1] at r1
        injection r1 with r1
        injection r1 with r1 r5
        injection r1 with r1 r6 r7
        subst r1 r5 r6 r7
        rw [s2, r2]
        have hc : c2 = c12 := by
          apply Array.ext_getElem?
          intro p
          rw [s4 p, r4 p]
        rw [hc]
      · rw [h4.other d hd, h3.other d hd2, h2.other d hd2, h1.other d hd]
/-- an entry of a map is another one -/
structure EUpd (A A' : AW) (b : Nat) (born : Int) (v : Value) : Prop where
  next : A'.next = A.next
  other : ∀ d, d ≠ b → A'.heap.get d = A.heap.get d
  blk : ∃ (es : Array MapEntry) (c j : Nat), A.heap.get b = some ⟨.map es c, false, false⟩ ∧ es.toList.findIdx? (fun e => (e.born : Int) == born) = some j ∧ A'.heap.get b = some ⟨.map (es.modify j fun e => { e with val := v }) c, false, false⟩
theorem EUpd.swap {A A1 A2 A12 A21 : AW} {b b2 o2 : Nat} {born : Int} {v : Value} {l2 : List Value} (h1 : EUpd A A1 b born v) (h2 : Upd A1 A12 b2 o2 l2) (h3 : Upd A A2 b2 o2 l2) (h4 : EUpd A2 A21 b born v) : A21.next = A12.next ∧ ∀ d, A21.heap.get d = A12.heap.get d := by
  refine ⟨by rw [h4.next, h3.next, h2.next, h1.next], fun d => ?_⟩
  obtain ⟨es, c, j, q1, q2, q3⟩ := h1.blk
  obtain ⟨c2, c2', e2, f2, fam2, s1, s2, s3, s4⟩ := h3.blk
  have hbb : b ≠ b2 := by
    intro e; subst e
    rw [q1] at s1; injection s1 with s1; injection s1 with s1; cases s1
  by_cases hd : d = b
  · subst hd
    obtain ⟨es', c', j', u1, u2, u3⟩ := h4.blk
    rw [h3.other d hbb, q1] at u1
    injection u1 with u1
    injection u1 with u1
    injection u1 with u1 u4
    subst u1 u4
    rw [q2] at u2
    injection u2 with u2
    subst u2
    rw [u3, h2.other d hbb, q3]
  · by_cases hd2 : d = b2
    · subst hd2
      rw [h4.other d hd]
      obtain ⟨c', c12, e', f', fam', r1, r2, r3, r4⟩ := h2.blk
      rw [h1.other d hd, s1] at r1
      injection r1 with r1
      injection r1 with r1 r5
      injection r1 with r1 r6 r7
      subst r1 r5 r6 r7
      rw [s2, r2]
      have hc : c2' = c12 := by
        apply Array.ext_getElem?
        intro p
        rw [s4 p, r4 p]
      rw [hc]
    · rw [h4.other d hd, h3.other d hd2, h2.other d hd2, h1.other d hd]
theorem MR.ext {F : FM} {A A' : AW} (h : MR F A) (hn : A'.next = A.next) (hg : ∀ d, A'.heap.get d = A.heap.get d) : MR F A' :=
  ⟨hn.trans h.next, fun b hb => by rw [hg b]; exact h.blk b hb⟩
section
variable {P : Program} {B : Nat} {w0 : Base} {n : Nat} {ops : Array Oper}
theorem storeCells_inv {b o : Nat} (hb : b < 262144) : ∀ (l : List Value) (i : Nat) (A A' : AW), l ≠ [] → runA P (storeCells ⟨b, o, none⟩ l i) A = some ((), A') → Upd A A' b (o + i) l
  | [], _, _, _, h, _ => absurd rfl h
  | v :: l, i, A, A', _, h => by
    have h' : runA P (Sem.bind (store ((⟨b, o, none⟩ : Addr).add i) v) fun _ => storeCells ⟨b, o, none⟩ l (i + 1)) A = some ((), A') := h
    rw [add_none, runA_bind] at h'
    cases hs : runA P (store ⟨b, o + i, none⟩ v) A with
    | none => rw [hs] at h'; cases h'
    | some x =>
      rw [hs] at h'
      obtain ⟨u, A1⟩ := x
      obtain ⟨_, _, h3⟩ := runA_store P .plain ⟨b, o + i, none⟩ v A hs
      have h' : runA P (storeCells ⟨b, o, none⟩ l (i + 1)) A1 = some ((), A') := h'
      unfold AW.store at h3
      cases hg : A.heap.get b with
      | none => rw [hg] at h3; cases h3
      | some x =>
        rw [hg] at h3
        split at h3
        · rename_i c e f fam hx
          injection hx with hx; subst hx
          simp only [Option.isSome_none, Bool.false_or] at h3
          cases hlt : Nat.blt (o + i) c.size with
          | false => rw [hlt] at h3; cases h3
          | true =>
            rw [hlt] at h3
            simp only [Bool.not_true, cond_false] at h3
            injection h3 with h3
            have h3 : A.put b (some ⟨.cells (c.setIfInBounds (o + i) v) e f, fam, false⟩) = A1 := h3
            subst h3
            have hlt' := blt_lt hlt
            have first : Upd A (A.put b (some ⟨.cells (c.setIfInBounds (o + i) v) e f, fam, false⟩)) b (o + i) [v] := by
              refine ⟨rfl, fun d hd => by rw [AW.put_at hb, if_neg hd], c, _, e, f, fam, hg, by rw [AW.put_at hb, if_pos rfl], by rw [Array.size_setIfInBounds], fun p => ?_⟩
              rw [Array.getElem?_setIfInBounds]
              by_cases hp : o + i = p
              · subst hp
                rw [if_pos rfl, if_pos hlt', if_pos (by simp), Nat.sub_self]
                rfl
              · rw [if_neg hp, if_neg (by simp only [List.length_cons, List.length_nil]; omega)]
            by_cases hl : l = []
            · subst hl
              have : A.put b (some ⟨.cells (c.setIfInBounds (o + i) v) e f, fam, false⟩) = A' := by
                have h2 : some ((), A.put b (some ⟨.cells (c.setIfInBounds (o + i) v) e f, fam, false⟩)) = some ((), A') := h'
                injection h2 with h2
                injection h2 with _ h2
              rw [← this]
              exact first
            · have rest := storeCells_inv hb l (i + 1) _ _ hl h'
              obtain ⟨c0, c1, e1, f1, fam1, q1, q2, q3, q4⟩ := first.blk
              obtain ⟨c2, c3, e2, f2, fam2, r1, r2, r3, r4⟩ := rest.blk
              rw [q2] at r1
              injection r1 with r1
              injection r1 with r1 r5
              injection r1 with r1 r6 r7
              subst r1 r5 r6 r7
              refine ⟨rest.next.trans first.next, fun d hd => (rest.other d hd).trans (first.other d hd), c0, c3, _, _, _, q1, r2, r3.trans q3, fun p => ?_⟩
              rw [r4 p, q4 p]
              simp only [List.length_cons, List.length_nil]
              by_cases p1 : p = o + i
              · subst p1
                rw [if_neg (by omega), if_pos (by omega), if_pos (by omega), Nat.sub_self]
                rfl
              · by_cases p2 : o + (i + 1) ≤ p ∧ p < o + (i + 1) + l.length
                · rw [if_pos p2, if_pos (by omega), show p - (o + i) = p - (o + (i + 1)) + 1 by omega, List.getElem?_cons_succ]
                · rw [if_neg p2, if_neg (by omega), if_neg (by omega)]
        · cases h3
theorem store_inv {dst : Option Tmp} {ty : TypeId} {pos : String} {after : Array Edge} {guard : Option (Nat × Bool)} {s : TypeId} {x y : Operand} {t : Operand → Value} {A : AW} {b o : Nat} {m : AN × AW} (hb : b < 262144) (hx : t x = .pointer (some ⟨b, o, none⟩)) (hpos : 0 < sizeB P s) (h : opA P t ⟨dst, .store s x y, ty, pos, after, guard⟩ A = some m) :
    m.1 = .skip ∧ (t y).cells.toList.length = sizeB P s ∧ Upd A m.2 b o (t y).cells.toList := by
  unfold opA at h
  cases hk : okOp ⟨dst, .store s x y, ty, pos, after, guard⟩ with
  | false => rw [hk] at h; cases h
  | true =>
    rw [hk, cond_true] at h
    dsimp only at h
    cases hi : P.info? s with
    | none => unfold sizeB at hpos; rw [hi] at hpos; exact absurd hpos (Nat.lt_irrefl 0)
    | some i =>
      have hsz := sizeB_info hi
      by_cases hv : (t y).cells.size = i.size
      · rw [hx, run_storeAt hi hv A] at h
        cases hr : runA P (storeCells ⟨b, o, none⟩ (t y).cells.toList) A with
        | none => rw [hr] at h; cases h
        | some u =>
          obtain ⟨⟨⟩, A'⟩ := u
          rw [hr] at h
          injection h with h; subst h
          refine ⟨rfl, by rw [Array.length_toList, hv, hsz], ?_⟩
          have := storeCells_inv hb (t y).cells.toList 0 A A' (fun e => by
            have : (t y).cells.toList.length = 0 := by rw [e]; rfl
            rw [Array.length_toList] at this
            omega) hr
          exact this
      · exfalso
        rw [hx] at h
        have : runA P (Instr.storeAt s (.pointer (some ⟨b, o, none⟩)) (t y)) A = none := by
          unfold Instr.storeAt storeVar
          simp only [Instr.sureAddr, Bind.bind, Pure.pure, Sem.bind, runA, sizeOf, typeInfo, program, hi]
          rw [if_pos hv]
          rfl
        rw [this] at h
        cases h
theorem stepW_store {o : Oper} {s : TypeId} {x y : Operand} (ho : o.op = .store s x y) {t : Array Value} {A : AW} {K : Value → AW → Prop} {b of : Nat} (hb : b < 262144) (hx : ev t x = .pointer (some ⟨b, of, none⟩)) (hpos : 0 < sizeB P s) (h : stepW P B w0 t o A K) : ∃ A', opA P (ev t) o A = some (.skip, A') ∧ K undef A' ∧ (ev t y).cells.toList.length = sizeB P s ∧ Upd A A' b of (ev t y).cells.toList := by
  obtain ⟨dst, op, ty, pos, after, guard⟩ := o
  dsimp only at ho
  subst ho
  have h2 := h.2
  cases hq : opA P (ev t) ⟨dst, .store s x y, ty, pos, after, guard⟩ A with
  | none =>
    rw [hq] at h2
    obtain ⟨_, x, k2, _⟩ := h2
    cases k2
  | some m =>
    obtain ⟨q1, q2, q3⟩ := store_inv hb hx hpos hq
    obtain ⟨m1, m2⟩ := m
    dsimp only at q1
    subst q1
    rw [hq] at h2
    exact ⟨m2, rfl, h2, q2, q3⟩
theorem stepW_entry {o : Oper} {mt : TypeId} {x y z : Operand} (ho : o.op = .entryStore mt x y z) {t : Array Value} {A : AW} {K : Value → AW → Prop} {b : Nat} (hb : b < 262144) (hx : ev t x = .map (some b)) (h : stepW P B w0 t o A K) : ∃ A' kd born, ev t y = .int kd born ∧ opA P (ev t) o A = some (.skip, A') ∧ K undef A' ∧ EUpd A A' b born (ev t z) := by
  obtain ⟨dst, op, ty, pos, after, guard⟩ := o
  dsimp only at ho
  subst ho
  have h2 := h.2
  cases hq : opA P (ev t) ⟨dst, .entryStore mt x y z, ty, pos, after, guard⟩ A with
  | none =>
    rw [hq] at h2
    obtain ⟨_, x, k2, _⟩ := h2
    cases k2
  | some m =>
    rw [hq] at h2
    unfold opA at hq
    cases hk : okOp ⟨dst, .entryStore mt x y z, ty, pos, after, guard⟩ with
    | false => rw [hk] at hq; cases hq
    | true =>
      rw [hk, cond_true] at hq
      dsimp only at hq
      cases hs : entryStoreA (ev t x) (ev t y) (ev t z) A with
      | none => rw [hs] at hq; cases hq
      | some A' =>
        rw [hs] at hq
        injection hq with hq; subst hq
        unfold entryStoreA at hs
        rw [hx] at hs
        split at hs
        rotate_left
        · cases hs
        rename_i r kd born hxx hyy
        injection hxx with hxx; injection hxx with hxx; subst hxx
        split at hs
        rotate_left
        · cases hs
        rename_i es c hbb
        split at hs
        rotate_left
        · cases hs
        rename_i j hj
        injection hs with hs; subst hs
        exact ⟨_, kd, born, hyy, rfl, h2, rfl, fun d hd => (by rw [AW.put_at hb, if_neg hd]), es, c, j, hbb, hj, by rw [AW.put_at hb, if_pos rfl]⟩
theorem wanted_none {o : Oper} (h : o.guard.isNone = true) (y : Nat → Option Bool) : Region.wanted o y = true := by
  unfold Region.wanted
  cases hg : o.guard with
  | none => rfl
  | some g => rw [hg] at h; cases h
theorem putA_none {o : Oper} (h : o.dst.isNone = true) (t : Array Value) (v : Value) : putA t o.dst v = t := by
  cases hd : o.dst with
  | none => rfl
  | some d => rw [hd] at h; cases h
end
end
end Go.Proofs.YtfeppmhcpfccfaaGreatDoor.Fast
