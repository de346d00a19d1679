/- A fast evaluator, part L: what a program's operation becomes. Of no program. -/
import Derived.Test.YtnneooidkbhbeaaGreatDoorEvX
set_option linter.unusedVariables false
set_option linter.unusedSimpArgs false
namespace Go.Proofs.YtnneooidkbhbeaaGreatDoor.Fast
open Go Go.RowKit Go.Proofs.YtnneooidkbhbeaaGreatDoor.Sim
noncomputable section
section
variable {P : Program} {B : Nat} {w0 : Base} {n : Nat} {gl : Nat → Bool}
/-- parts of strings -/
theorem natOf_some {v : Value} {d i : Nat} (h : natOf (some v) d = some i) : ∃ k, v = .int k (Int.ofNat i) := by
  cases v with
  | int k z =>
    have h' : (bif decide (0 ≤ z) then some z.toNat else none) = some i := h
    cases hd : decide (0 ≤ z) with
    | false => rw [hd] at h'; cases h'
    | true =>
      rw [hd, cond_true] at h'
      injection h' with h'
      have h0 := of_decide_eq_true hd
      exact ⟨k, by rw [← h']; congr 1; simp only [Int.ofNat_eq_natCast]; omega⟩
  | _ => cases h
theorem run_bound {v : Value} {d i y : Nat} {code : BoundsCode} (h : natOf (some v) d = some i) (hy : i ≤ y) : pureRun P (Instr.sliceBound v y code) = some i := by
  obtain ⟨k, rfl⟩ := natOf_some h
  unfold Instr.sliceBound
  refine pureRun_bind.2 ⟨(k, Int.ofNat i), rfl, ?_⟩
  dsimp only
  rw [if_pos ⟨show (0 : Int) ≤ Int.ofNat i from Int.natCast_nonneg i, by simp only [Int.ofNat_eq_natCast]; omega⟩]
  rfl
theorem run_bounds {m : Nat} {lo hi : Option Value} {i j : Nat} (hl : natOf lo 0 = some i) (hh : natOf hi m = some j) (h1 : i ≤ j) (h2 : j ≤ m) : pureRun P (Instr.sliceBounds false m m lo hi none) = some (i, j, m) := by
  have h3 : ∀ (v : Value), hi = some v → pureRun P (Instr.sliceBound v m .sliceAlen) = some j := fun v hv => by subst hv; exact run_bound hh h2
  have h4 : ∀ (v : Value), lo = some v → pureRun P (Instr.sliceBound v j .sliceB) = some i := fun v hv => by subst hv; exact run_bound hl h1
  cases hi with
  | none =>
    injection hh with hh; subst hh
    cases lo with
    | none => injection hl with hl; subst hl; rfl
    | some v =>
      dsimp only [Instr.sliceBounds]
      refine pureRun_bind.2 ⟨m, rfl, ?_⟩
      refine pureRun_bind.2 ⟨m, rfl, ?_⟩
      exact pureRun_bind.2 ⟨i, h4 v rfl, rfl⟩
  | some u =>
    cases lo with
    | none =>
      injection hl with hl; subst hl
      dsimp only [Instr.sliceBounds]
      refine pureRun_bind.2 ⟨m, rfl, ?_⟩
      refine pureRun_bind.2 ⟨j, h3 u rfl, ?_⟩
      exact pureRun_bind.2 ⟨0, rfl, rfl⟩
    | some v =>
      dsimp only [Instr.sliceBounds]
      refine pureRun_bind.2 ⟨m, rfl, ?_⟩
      refine pureRun_bind.2 ⟨j, h3 u rfl, ?_⟩
      exact pureRun_bind.2 ⟨i, h4 v rfl, rfl⟩
theorem boOf_free {x : Option Operand} {b : Bo} (hb : boOf gl n x = some b) {t : Operand → Value} {d i : Nat} (h : natOf (x.map t) d = some i) : x.toArray.toList.all (fun y => free (t y)) = true := by
  cases x with
  | none => rfl
  | some x =>
    obtain ⟨k, hk⟩ := natOf_some (show natOf (some (t x)) d = some i from h)
    show List.all [x] _ = true
    simp [hk, free, freeD, leafFree]
theorem rSub_ok {s : TypeId} {x : Operand} {lo hi : Option Operand} {a : Acc} {l h' : Bo} {dst : Option Tmp} {ty : TypeId} {pos : String} {after : Array Edge} {guard : Option (Nat × Bool)} (hu : P.underlying s = some .string) (ha : AccOk n x a) (hl : boOf gl n lo = some l) (hh : boOf gl n hi = some h') (hk : okOp ⟨dst, .slice s x lo hi none, ty, pos, after, guard⟩ = true) : QOk P n ⟨dst, .slice s x lo hi none, ty, pos, after, guard⟩ (rSub a l h') :=
  QOk.val fun rec L F k t A h1 h2 hM h => by
    obtain ⟨m, z, h3, h4⟩ := strK_true h
    have e1 : ev t x = .string (bytesOf m z) := (ha L t h1 h2).symm.trans (by rw [h3]; rfl)
    obtain ⟨i, g1, g2⟩ := boOf_ok hl h1 h2 h4
    obtain ⟨j, g3, g4⟩ := boOf_ok hh h1 h2 g2
    obtain ⟨g5, g6⟩ := ifK_true g4
    rw [Bool.and_eq_true] at g5
    have hij : i ≤ j := Nat.le_of_ble_eq_true g5.1
    have hjm : j ≤ m := Nat.le_of_ble_eq_true g5.2
    have hcls : cls (ev t) ⟨dst, .slice s x lo hi none, ty, pos, after, guard⟩ = .pure := by
      show (match ev t x with | .slice _ _ _ => Cls.mem | _ => Cls.pure) = _
      rw [e1]
    have hq : opQ P (ev t) ⟨dst, .slice s x lo hi none, ty, pos, after, guard⟩ = some (SV.up (.val (.str (j - i) ((z >>> (8 * i)) % 2 ^ (8 * (j - i)))))) := by
      show (match ev t x with | .slice _ _ _ => none | _ => freeQ P (ev t) ⟨dst, .slice s x lo hi none, ty, pos, after, guard⟩) = _
      rw [e1]
      show freeQ P (ev t) ⟨dst, .slice s x lo hi none, ty, pos, after, guard⟩ = _
      unfold freeQ
      have e3 : (List.all (Oper.op ⟨dst, .slice s x lo hi none, ty, pos, after, guard⟩).operands.toList fun z => free (ev t z)) = true := by
        show List.all (#[x] ++ lo.toArray ++ hi.toArray ++ (none : Option Operand).toArray).toList _ = true
        have q1 := boOf_free hl g1
        have q2 := boOf_free hh g3
        simp only [Array.toList_append, List.all_append, q1, q2, Bool.and_true]
        simp [e1, free, freeD, leafFree]
      have e4 : pureRun P (execOp (ev t) ⟨dst, .slice s x lo hi none, ty, pos, after, guard⟩) = some (.value (.string ((bytesOf m z).extract i j))) := by
        show pureRun P (Sem.bind (Instr.sliceAt s (ev t x) (lo.map (ev t)) (hi.map (ev t)) none) fun v => Sem.pure (Next.value v)) = _
        rw [e1]
        refine pureRun_bind.2 ⟨.string ((bytesOf m z).extract i j), ?_, rfl⟩
        unfold Instr.sliceAt
        refine pureRun_bind.2 ⟨_, run_und hu, ?_⟩
        dsimp only
        unfold Instr.slice
        refine pureRun_bind.2 ⟨_, run_und hu, ?_⟩
        dsimp only
        rw [if_neg (by decide)]
        refine pureRun_bind.2 ⟨(i, j, m), ?_, rfl⟩
        rw [bytesOf_size]
        exact run_bounds g1 g3 hij hjm
      rw [e3, e4, sub_eq hij hjm]
      rfl
    exact ⟨_, quiet_pure hk hcls hq, _, F, rfl, hM, g6⟩
theorem rLenS_ok {s : TypeId} {x : Operand} {a : Acc} {args : Array Operand} {ts : Array TypeId} {dst : Option Tmp} {ty : TypeId} {pos : String} {after : Array Edge} {guard : Option (Nat × Bool)} (hargs : args.toList = [x]) (hts : ts.toList = [s]) (hu : P.underlying s = some .string) (ha : AccOk n x a) (hk : okOp ⟨dst, .call ⟨.builtin .len, args, ts⟩, ty, pos, after, guard⟩ = true) : QOk P n ⟨dst, .call ⟨.builtin .len, args, ts⟩, ty, pos, after, guard⟩ (rLenS a) :=
  QOk.pureAt hk fun rec L F k t h1 h2 h => by
    obtain ⟨m, z, h3, h4⟩ := strK_true h
    have e1 : ev t x = .string (bytesOf m z) := (ha L t h1 h2).symm.trans (by rw [h3]; rfl)
    have hargs' : args = #[x] := by rw [← Array.toArray_toList (xs := args), hargs]
    have hts' : ts = #[s] := by rw [← Array.toArray_toList (xs := ts), hts]
    subst hargs' hts'
    refine ⟨_, cls_len rfl (fun b => by rw [e1]; intro e; cases e), ?_, h4⟩
    show (match ev t x with | .slice _ n _ => _ | _ => freeQ P (ev t) _) = _
    rw [e1]
    show freeQ P (ev t) ⟨dst, .call ⟨.builtin .len, #[x], #[s]⟩, ty, pos, after, guard⟩ = _
    unfold freeQ
    have e3 : (List.all (Oper.op ⟨dst, .call ⟨.builtin .len, #[x], #[s]⟩, ty, pos, after, guard⟩).operands.toList fun z => free (ev t z)) = true := by
      show List.all [x] _ = true
      simp [e1, free, freeD, leafFree]
    have e4 : pureRun P (execOp (ev t) ⟨dst, .call ⟨.builtin .len, #[x], #[s]⟩, ty, pos, after, guard⟩) = some (.value (.int .i64 (Int.ofNat m))) := by
      have hm : (#[x] : Array Operand).map (ev t) = #[ev t x] := by simp
      show pureRun P (Sem.bind (resolve (ev t) ⟨.builtin .len, #[x], #[s]⟩ ty) fun d => invoke d.target d.args) = _
      refine pureRun_bind.2 ⟨{ target := .builtin .len #[s] ty ((#[x] : Array Operand).map fun | .const _ => true | _ => false), args := #[ev t x] }, ?_, ?_⟩
      · unfold resolve
        rw [hm]
        rfl
      · show pureRun P (Sem.bind (Builtin.len_ #[s] ty #[ev t x]) fun v => Sem.pure (Next.value v)) = _
        rw [e1]
        refine pureRun_bind.2 ⟨.int .i64 (Int.ofNat m), ?_, rfl⟩
        unfold Builtin.len_
        show pureRun P (Sem.bind (Go.underlying s) _) = _
        refine pureRun_bind.2 ⟨_, run_und hu, ?_⟩
        show some (Value.int .i64 ((bytesOf m z).size : Int)) = _
        rw [bytesOf_size]
        rfl
    rw [e3, e4]
    rfl
theorem lenE_eq : ∀ (l : List ME), lenE l = l.length
  | [] => rfl
  | _ :: l => congrArg Nat.succ (lenE_eq l)
theorem rLenM_ok {s kt e : TypeId} {x : Operand} {a : Acc} {args : Array Operand} {ts : Array TypeId} {dst : Option Tmp} {ty : TypeId} {pos : String} {after : Array Edge} {guard : Option (Nat × Bool)} (hargs : args.toList = [x]) (hts : ts.toList = [s]) (hu : P.underlying s = some (.map kt e)) (ha : AccOk n x a) (hk : okOp ⟨dst, .call ⟨.builtin .len, args, ts⟩, ty, pos, after, guard⟩ = true) :
    QOk P n ⟨dst, .call ⟨.builtin .len, args, ts⟩, ty, pos, after, guard⟩ (rLenM a (slowOf P n ⟨dst, .call ⟨.builtin .len, args, ts⟩, ty, pos, after, guard⟩)) := by
  intro rec L F k t A h1 h2 hM h
  obtain ⟨v, h3, h4⟩ := valK_true h
  cases v with
  | map b =>
    obtain ⟨hb, es, c, h5, h6⟩ := mapK_true (show mapK b F _ = true from h4)
    rw [num_eq, lenE_eq] at h6
    obtain ⟨cs, q1, q2⟩ := hM.map hb h5
    have e1 : ev t x = .map (some b) := (ha L t h1 h2).symm.trans (by rw [h3]; rfl)
    have hts0 : ts[0]? = some s := by rw [← Array.getElem?_toList, hts]; rfl
    have hsz : cs.size = es.length := by rw [← Array.length_toList, q2, List.length_map]
    have hc : cls (ev t) ⟨dst, .call ⟨.builtin .len, args, ts⟩, ty, pos, after, guard⟩ = .mem := by
      unfold cls
      dsimp only
      rw [hargs]
      dsimp only
      rw [e1]
    have hv : opM P (ev t) A ⟨dst, .call ⟨.builtin .len, args, ts⟩, ty, pos, after, guard⟩ = some (.int .i64 (cs.size : Int)) := by
      unfold opM
      dsimp only
      rw [hargs]
      dsimp only
      rw [e1]
      exact lenM_of hts0 hu q1
    rw [quiet_mem hk hc hv]
    exact ⟨.val (.int .i64 (Int.ofNat es.length)), F, by rw [hsz]; rfl, hM, h6⟩
  | val u =>
    have h4 : slowOf P n ⟨dst, .call ⟨.builtin .len, args, ts⟩, ty, pos, after, guard⟩ rec L F k = true := h4
    refine slow_ok (fun t v hv => cls_len hargs fun b hb => ?_) hk rec L F k t A h1 h2 hM h4
    have hargs' : args = #[x] := by rw [← Array.toArray_toList (xs := args), hargs]
    subst hargs'
    have hq : opQ P t ⟨dst, .call ⟨.builtin .len, #[x], ts⟩, ty, pos, after, guard⟩ = freeQ P t ⟨dst, .call ⟨.builtin .len, #[x], ts⟩, ty, pos, after, guard⟩ := by
      show (match t x with | .slice _ n _ => _ | _ => freeQ P t _) = _
      rw [hb]
    rw [hq] at hv
    unfold freeQ at hv
    have e3 : (List.all (Oper.op ⟨dst, .call ⟨.builtin .len, #[x], ts⟩, ty, pos, after, guard⟩).operands.toList fun z => free (t z)) = false := by
      show List.all [x] _ = false
      simp [hb, free, freeD, leafFree]
    rw [e3] at hv
    cases hv
  | _ => exact not_bad h4
/-- an operation is what it is to be -/
def OpOk (P : Program) (B : Nat) (w0 : Base) (n : Nat) (o : Oper) (c : Op1) : Prop := (loudB o = false → QOk P n o c) ∧ (loudB o = true → LOk P B w0 n o c)
theorem OpOk.q {o : Oper} {c : Op1} (hl : loudB o = false) (h : QOk P n o c) : OpOk P B w0 n o c := ⟨fun _ => h, fun h2 => by rw [hl] at h2; cases h2⟩
theorem OpOk.l {o : Oper} {c : Op1} (hl : loudB o = true) (h : LOk P B w0 n o c) : OpOk P B w0 n o c := ⟨fun h2 => (by rw [hl] at h2; cases h2), fun _ => h⟩
theorem OpOk.bad {o : Oper} : OpOk P B w0 n o rBad := ⟨fun _ => QOk.bad, fun _ => LOk.bad⟩
theorem info_of_underlying {e : TypeId} {d : TypeDesc} (h : P.underlying e = some d) : ∃ i, P.info? e = some i := by
  cases hi : P.info? e with
  | some i => exact ⟨i, rfl⟩
  | none =>
    unfold Program.underlying at h
    simp [hi] at h
theorem mapM_at : ∀ {fs : List Field} {places : List (Nat × Nat)}, (fs.mapM fun f => (P.info? f.type).map fun i => (f.offset, i.size)) = some places → ∀ {i : Nat} {f : Field}, fs[i]? = some f → ∃ it, P.info? f.type = some it ∧ places[i]? = some (f.offset, it.size)
  | [], places, h, i, f, hf => by simp at hf
  | g :: fs, places, h, i, f, hf => by
    rw [List.mapM_cons] at h
    cases hg : P.info? g.type with
    | none => rw [hg] at h; cases h
    | some ig =>
      rw [hg] at h
      cases hr : (fs.mapM fun f => (P.info? f.type).map fun i => (f.offset, i.size)) with
      | none => rw [hr] at h; cases h
      | some r =>
        rw [hr] at h
        have h' : (g.offset, ig.size) :: r = places := by injection h
        subst h'
        cases i with
        | zero =>
          have : g = f := by simpa using hf
          subst this
          exact ⟨ig, hg, rfl⟩
        | succ i => exact mapM_at hr (by simpa using hf)
theorem aggB_info {e : TypeId} {q : Bool} (h : aggB P e = some q) : ∃ i, P.info? e = some i := by
  unfold aggB at h
  cases hu : P.underlying e with
  | none => rw [hu] at h; cases h
  | some d => exact info_of_underlying hu
theorem sizeB_info {e : TypeId} {i : TypeInfo} (h : P.info? e = some i) : sizeB P e = i.size := by unfold sizeB; rw [h]
theorem zeroB_pos {e : TypeId} {z : List Value} (h : zeroB P e = some z) : 0 < z.length ∧ sizeB P e = z.length := by
  obtain ⟨i, v, h1, h2, h3, h4, h5, h6, h7, h8⟩ := zeroB_spec h
  exact ⟨by omega, by omega⟩
variable {dst : Option Tmp} {ty : TypeId} {pos : String} {after : Array Edge} {guard : Option (Nat × Bool)}
theorem slow_of {op : Op} (hcls : ∀ t, cls t ⟨dst, op, ty, pos, after, guard⟩ = .pure) (hA : ∀ t A, opA P t ⟨dst, op, ty, pos, after, guard⟩ A = bif okOp ⟨dst, op, ty, pos, after, guard⟩ then (match opQ P t ⟨dst, op, ty, pos, after, guard⟩ with | some v => some (.val v, A) | none => none) else none) (hk : okOp ⟨dst, op, ty, pos, after, guard⟩ = true) : OpOk P B w0 n ⟨dst, op, ty, pos, after, guard⟩ (slowOf P n ⟨dst, op, ty, pos, after, guard⟩) :=
  ⟨fun _ => slow_ok (fun t _ _ => hcls t) hk, fun _ => slowL_ok (fun t v A hk hq => by rw [hA, hk, cond_true, hq]) hk⟩
theorem binOf_ok {op : BinOp} {xt yt : TypeId} {x y : Operand} (hk : okOp ⟨dst, .binOp op xt x y yt, ty, pos, after, guard⟩ = true) : OpOk P B w0 n ⟨dst, .binOp op xt x y yt, ty, pos, after, guard⟩ (binOf gl P n ⟨dst, .binOp op xt x y yt, ty, pos, after, guard⟩ op xt x y) := by
  have slow : OpOk P B w0 n ⟨dst, .binOp op xt x y yt, ty, pos, after, guard⟩ (slowOf P n ⟨dst, .binOp op xt x y yt, ty, pos, after, guard⟩) := slow_of (fun _ => rfl) (fun _ _ => rfl) hk
  unfold binOf binD
  split
  · rename_i a b k ha hb hu
    have ha := accOf_ok ha
    have hb := accOf_ok hb
    cases op with
    | eql => exact OpOk.q rfl (rCmp_ok bin_eql ha hb hk)
    | neq => exact OpOk.q rfl (rCmp_ok bin_neq ha hb hk)
    | lss => exact OpOk.q rfl (rCmp_ok bin_lss ha hb hk)
    | gtr => exact OpOk.q rfl (rCmp_ok bin_gtr ha hb hk)
    | leq => exact OpOk.q rfl (rCmp_ok bin_leq ha hb hk)
    | geq => exact OpOk.q rfl (rCmp_ok bin_geq ha hb hk)
    | add => exact OpOk.q rfl (rArith_ok (g := fun _ a b => a + b) addI_true bin_add ha hb hk)
    | sub => exact OpOk.q rfl (rArith_ok (g := fun _ a b => a - b) subI_true bin_sub ha hb hk)
    | mul => exact OpOk.q rfl (rArith_ok (g := fun _ a b => a * b) mulI_true bin_mul ha hb hk)
    | _ => exact slow
  · rename_i a b ha hb hu
    have ha := accOf_ok ha
    have hb := accOf_ok hb
    cases op with
    | eql => exact OpOk.q rfl (rStrEq_ok (neg := false) ha hb hk)
    | neq => exact OpOk.q rfl (rStrEq_ok (neg := true) ha hb hk)
    | add => exact OpOk.q rfl (rCat_ok ha hb hk)
    | _ => exact slow
  · exact slow
theorem decOp_ok {o : Oper} (hk : okOp o = true) : OpOk P B w0 n o (decOp gl P n o) := by
  obtain ⟨dst, op, ty, pos, after, guard⟩ := o
  cases op with
  | move x =>
    unfold decOp decD
    dsimp only
    cases hx : accOf gl n x with
    | none => exact OpOk.bad
    | some a => exact OpOk.q rfl (rMove_ok (accOf_ok hx) hk)
  | assign x =>
    unfold decOp decD
    dsimp only
    cases hx : accOf gl n x with
    | none => exact OpOk.bad
    | some a => exact OpOk.q rfl (rAssign_ok (accOf_ok hx) hk)
  | pick c x y =>
    unfold decOp decD
    dsimp only
    split
    · rename_i a b c h1 h2 h3
      exact OpOk.q rfl (rPick_ok (accOf_ok h1) (accOf_ok h2) (accOf_ok h3) hk)
    · exact OpOk.bad
  | load s x =>
    unfold decOp decD
    dsimp only
    split
    · rename_i a h1 h2
      exact OpOk.q rfl (rLoadN_ok h2 (aggB_info h2) (accOf_ok h1) hk)
    · rename_i a h1 h2
      exact OpOk.q rfl (rLoad_ok h2 (accOf_ok h1) hk)
    · exact OpOk.bad
  | store s x y =>
    unfold decOp decD
    dsimp only
    split
    · rename_i a b h1 h2 h3
      obtain ⟨i, hi⟩ := aggB_info h3
      cases hq : Nat.beq (sizeB P s) 0 with
      | true => exact OpOk.bad
      | false =>
        rw [sizeB_info hi] at hq ⊢
        have hpos : 0 < i.size := by
          rcases Nat.eq_zero_or_pos i.size with h0 | h0
          · rw [h0] at hq; cases hq
          · exact h0
        exact OpOk.l rfl (rStoreN_ok hi hpos (accOf_ok h1) (accOf_ok h2) hk)
    · rename_i a b h1 h2 h3
      obtain ⟨i, hi⟩ := aggB_info h3
      cases hq : Nat.beq (sizeB P s) 1 with
      | false => exact OpOk.bad
      | true =>
        rw [sizeB_info hi] at hq
        exact OpOk.l rfl (rStore_ok hi (beq_eq hq) (accOf_ok h1) (accOf_ok h2) hk)
    · exact OpOk.bad
  | alloc e =>
    unfold decOp decD
    dsimp only
    cases hz : zeroB P e with
    | none => exact OpOk.bad
    | some z =>
      dsimp only
      generalize shapeB P e = ms
      obtain ⟨m, s⟩ := ms
      dsimp only
      cases hq : (Nat.beq (m * s) z.length && Nat.ble m 512 && Nat.ble s 64 && Nat.blt 0 s) with
      | false => exact OpOk.bad
      | true =>
        rw [Bool.and_eq_true, Bool.and_eq_true, Bool.and_eq_true] at hq
        exact OpOk.q rfl (rAlloc_ok hz (beq_eq hq.1.1.1) (Nat.le_of_ble_eq_true hq.1.1.2) (Nat.le_of_ble_eq_true hq.1.2) (blt_lt hq.2) hk)
  | box e x =>
    unfold decOp decD
    dsimp only
    split
    · rename_i a h1 h2
      cases hq : (Nat.beq (sizeB P e) 0 || Nat.blt 64 (sizeB P e)) with
      | true => exact OpOk.bad
      | false =>
        rw [Bool.or_eq_false_iff] at hq
        refine OpOk.q rfl (rBoxN_ok ?_ ?_ (accOf_ok h1) hk)
        · rcases Nat.eq_zero_or_pos (sizeB P e) with h0 | h0
          · rw [h0] at hq; cases hq.1
          · exact h0
        · rcases Nat.lt_or_ge 64 (sizeB P e) with h0 | h0
          · have := hq.2; rw [natBlt, decide_eq_true h0] at this; cases this
          · exact h0
    · rename_i a h1 h2
      exact OpOk.q rfl (rBox_ok (accOf_ok h1) hk)
    · exact OpOk.bad
  | fieldAddr s x f =>
    unfold decOp decD
    dsimp only
    split
    · rename_i a fs h1 h2
      cases hf : fs[f]? with
      | none => exact OpOk.bad
      | some fd =>
        dsimp only
        cases hq : Nat.beq (sizeB P fd.type) 0 with
        | true => exact OpOk.bad
        | false => exact OpOk.q rfl (rFieldAddr_ok h2 hf (fun h0 => by rw [h0] at hq; cases hq) (accOf_ok h1) hk)
    · exact OpOk.bad
  | field s x f =>
    unfold decOp decD
    dsimp only
    split
    · rename_i a fs h1 h2
      cases hf : fs[f]? with
      | none => exact OpOk.bad
      | some fd =>
        dsimp only
        cases hg : aggB P fd.type with
        | none => exact OpOk.bad
        | some q =>
          cases q with
          | true =>
            obtain ⟨i, hi⟩ := aggB_info hg
            dsimp only
            rw [sizeB_info hi]
            exact OpOk.q rfl (rFieldN_ok h2 hf hg hi (accOf_ok h1) hk)
          | false => exact OpOk.q rfl (rField_ok h2 hf hg (accOf_ok h1) hk)
    · exact OpOk.bad
  | extract x i =>
    unfold decOp decD
    dsimp only
    cases hx : accOf gl n x with
    | none => exact OpOk.bad
    | some a => exact OpOk.q rfl (rExtract_ok (accOf_ok hx) hk)
  | binOp op xt x y yt => exact binOf_ok hk
  | nilCheck x =>
    unfold decOp decD
    dsimp only
    cases hx : accOf gl n x with
    | none => exact OpOk.bad
    | some a => exact OpOk.q rfl (rNilCheck_ok (accOf_ok hx) hk)
  | unOp uo xt x =>
    cases uo with
    | not =>
      unfold decOp decD
      dsimp only
      cases hx : accOf gl n x with
      | none => exact OpOk.bad
      | some a => exact OpOk.q rfl (rNot_ok (accOf_ok hx) hk)
    | _ => exact slow_of (fun _ => rfl) (fun _ _ => rfl) hk
  | indexAddr s x y =>
    unfold decOp decD
    dsimp only
    split
    · rename_i a b e h1 h2 h3
      cases hq : Nat.beq (sizeB P e) 0 with
      | true => exact OpOk.bad
      | false =>
        cases hi : P.info? e with
        | none => unfold sizeB at hq; rw [hi] at hq; cases hq
        | some i =>
          rw [cond_false, sizeB_info hi]
          exact OpOk.q rfl (rIndexAddr_ok h3 hi (accOf_ok h1) (accOf_ok h2) hk)
    · rename_i a b len e h1 h2 h3
      cases hq : Nat.beq (sizeB P e) 0 with
      | true => exact OpOk.bad
      | false =>
        cases hi : P.info? e with
        | none => unfold sizeB at hq; rw [hi] at hq; cases hq
        | some i =>
          rw [cond_false, sizeB_info hi]
          exact OpOk.q rfl (rIndexArr_ok h3 hi (accOf_ok h1) (accOf_ok h2) hk)
    · exact slow_of (fun _ => rfl) (fun _ _ => rfl) hk
  | index s x y =>
    unfold decOp decD
    dsimp only
    split
    · rename_i a b h1 h2 h3
      exact OpOk.q rfl (rByte_ok h3 (accOf_ok h1) (accOf_ok h2) hk)
    · exact slow_of (fun _ => rfl) (fun _ _ => rfl) hk
  | build s ps =>
    unfold decOp decD
    dsimp only
    split
    · rename_i fs z h1 h2
      obtain ⟨i, v, g1, g2, g3, g4, g5, g6, g7, g8⟩ := zeroB_spec h2
      cases hq : (Nat.ble z.length 64 && (fs.toList.mapM fun f => (P.info? f.type).map fun i => (f.offset, i.size)).isSome) with
      | false => exact OpOk.bad
      | true =>
        rw [cond_true]
        rw [Bool.and_eq_true] at hq
        have h64 : z.length ≤ 64 := Nat.le_of_ble_eq_true hq.1
        obtain ⟨places, hpl⟩ := Option.isSome_iff_exists.1 hq.2
        split
        · rename_i b hb
          refine OpOk.q rfl (rBuild_ok (c0 := v.cells) (place' := (places.toArray[·]?)) h64 ⟨by rw [g4, g6], fun p hp => by rw [← Array.getElem?_toList, g3]; exact rowOf_up h64 g8 hp row0⟩ (fun i off t hi => ?_) hb (fun l => ?_) hk)
          · cases hf : fs[i]? with
            | none => rw [hf] at hi; cases hi
            | some f =>
              rw [hf] at hi
              injection hi with hi; injection hi with e1 e2; subst e1 e2
              have := mapM_at hpl (i := i) (f := f) (by rw [Array.getElem?_toList]; exact hf)
              obtain ⟨it, q1, q2⟩ := this
              show places.toArray[i]? = _
              rw [List.getElem?_toArray, q2, sizeB_info q1]
          · unfold Program.built
            rw [g1, h1]
            dsimp only
            rw [g2, hpl]
        · exact slow_of (fun _ => rfl) (fun _ _ => rfl) hk
    · rename_i len e z h1 h2
      obtain ⟨i, v, g1, g2, g3, g4, g5, g6, g7, g8⟩ := zeroB_spec h2
      cases hq : (Nat.ble z.length 64 && (P.info? e).isSome) with
      | false => exact OpOk.bad
      | true =>
        rw [cond_true]
        rw [Bool.and_eq_true] at hq
        have h64 : z.length ≤ 64 := Nat.le_of_ble_eq_true hq.1
        obtain ⟨ie, hie⟩ := Option.isSome_iff_exists.1 hq.2
        split
        · rename_i b hb
          refine OpOk.q rfl (rBuild_ok (c0 := v.cells) (place' := fun i => some (i * ie.size, ie.size)) h64 ⟨by rw [g4, g6], fun p hp => by rw [← Array.getElem?_toList, g3]; exact rowOf_up h64 g8 hp row0⟩ (fun i off t hi => ?_) hb (fun l => ?_) hk)
          · cases hb2 : Nat.blt i len with
            | false => rw [hb2] at hi; cases hi
            | true =>
              rw [hb2, cond_true] at hi
              injection hi with hi; injection hi with e1 e2; subst e1 e2
              rw [sizeB_info hie]
          · unfold Program.built
            rw [g1, h1]
            dsimp only
            rw [g2, hie]
        · exact slow_of (fun _ => rfl) (fun _ _ => rfl) hk
    · exact slow_of (fun _ => rfl) (fun _ _ => rfl) hk
  | convert src dstT x =>
    unfold decOp decD
    dsimp only
    split
    · rename_i e hs hd
      split
      · rename_i a i h1 he hi
        cases hq : (loudB ⟨dst, .convert src dstT x, ty, pos, after, guard⟩ && Nat.beq i.size 1) with
        | false => exact OpOk.bad
        | true =>
          rw [Bool.and_eq_true] at hq
          exact OpOk.l hq.1 (rBytes_ok hs hd he hi hq.2 (accOf_ok h1) hk)
      · exact OpOk.bad
    · rename_i hne
      refine ⟨fun _ => slow_ok (fun t _ _ => rfl) hk, fun _ => slowL_ok (fun t v A hk hq => ?_) hk⟩
      have hc : convA P src dstT (t x) A = none := by
        unfold convA
        split
        · rename_i e hs hd
          exact absurd hd (hne e hs)
        · rfl
      unfold opA
      rw [hk, cond_true]
      dsimp only
      rw [hc, hq]
  | buildSlice s len ps =>
    unfold decOp decD
    dsimp only
    split
    · rename_i e h1
      split
      · rename_i z b h2 h3
        cases hq : (Nat.ble len 512 && Nat.ble z.length 64) with
        | false => exact OpOk.bad
        | true =>
          rw [Bool.and_eq_true] at hq
          exact OpOk.q rfl (rBuildSlice_ok h1 h2 h3 (Nat.le_of_ble_eq_true hq.1) (Nat.le_of_ble_eq_true hq.2) hk)
      · exact OpOk.bad
    · exact OpOk.bad
  | makeFunc fn f c =>
    cases fn with
    | func g =>
      unfold decOp decD
      dsimp only
      split
      · rename_i a b h1 h2
        exact OpOk.q rfl (rFunc_ok h1 h2 hk)
      · exact OpOk.bad
    | _ => exact slow_of (fun _ => rfl) (fun _ _ => rfl) hk
  | slice s x lo hi mx =>
    cases mx with
    | some m =>
      cases lo with
      | some l => exact OpOk.bad
      | none =>
        cases hi with
        | none => exact OpOk.bad
        | some hi =>
          unfold decOp decD
          dsimp only
          split
          · rename_i e a h' m' h1 h2 h3 h4
            cases hi2 : P.info? e with
            | none => exact OpOk.bad
            | some i => exact OpOk.l rfl (rClip_ok h1 hi2 (accOf_ok h2) h3 h4 hk)
          · exact OpOk.bad
    | none =>
      unfold decOp decD
      dsimp only
      have slow : OpOk P B w0 n ⟨dst, .slice s x lo hi none, ty, pos, after, guard⟩ (slowOf P n ⟨dst, .slice s x lo hi none, ty, pos, after, guard⟩) := by
        refine OpOk.q rfl (slow_ok (fun t v hq => ?_) hk)
        have hq' : (match t x with | .slice _ _ _ => none | _ => freeQ P t ⟨dst, .slice s x lo hi none, ty, pos, after, guard⟩) = some v := hq
        show (match t x with | .slice _ _ _ => Cls.mem | _ => Cls.pure) = _
        split at hq'
        · cases hq'
        · rfl
      split
      · rename_i e a l h h1 h2 h3 h4
        cases hi2 : P.info? e with
        | none => exact OpOk.bad
        | some i => exact OpOk.q rfl (rSlice_ok h1 hi2 (accOf_ok h2) h3 h4 hk)
      · rename_i a l h h1 h2 h3 h4
        exact OpOk.q rfl (rSub_ok h1 (accOf_ok h2) h3 h4 hk)
      · exact slow
  | call c =>
    obtain ⟨callee, args, ts⟩ := c
    cases callee with
    | invoke r m => exact slow_of (fun _ => rfl) (fun _ _ => rfl) hk
    | value f =>
      unfold decOp decD
      dsimp only
      have gen : OpOk P B w0 n ⟨dst, .call ⟨.value f, args, ts⟩, ty, pos, after, guard⟩ (OpD.get (match accOf gl n f, ahOf gl n args.toList with | some a, some s => .mk (rCallV P a s) | _, _ => .mk rBad)) := by
        split
        · rename_i a s h1 h2
          exact OpOk.l rfl (rCallV_ok (accOf_ok h1) h2 hk)
        · exact OpOk.bad
      cases f with
      | func g =>
        dsimp only
        cases h0 : bldD gl P n g args.toList with
        | some d => exact OpOk.l rfl (bldD_ok h0 hk)
        | none =>
          dsimp only
          cases h00 : cloneD gl P n g args.toList with
          | some d => exact OpOk.l rfl (cloneD_ok h00 hk)
          | none =>
            dsimp only
            cases h1 : agOf gl n args.toList 0 with
            | none => exact OpOk.bad
            | some s =>
              dsimp only
              cases hb : hasB P g with
              | false => exact OpOk.bad
              | true => exact OpOk.l rfl (rCallF_ok h1 hb hk)
      | tmp d => exact gen
      | const v => exact gen
      | global g => exact gen
    | builtin b =>
      cases b with
      | append =>
        unfold decOp decD
        dsimp only
        split
        · rename_i x y t u h1 h2
          cases htu : Nat.beq t u with
          | false =>
            rw [cond_false]
            split
            · rename_i a b e h3 h4 h5 h5u
              split
              · rename_i z i h6 h7
                obtain ⟨i2, v, g1, g2, g3, g4, g5, g6, g7, g8⟩ := zeroB_spec h6
                rw [h7] at g1; injection g1 with g1; subst g1
                cases h64 : Nat.beq i.size 1 with
                | false => exact OpOk.bad
                | true =>
                  rw [cond_true]
                  exact OpOk.l rfl (rAppStr_ok h1 h2 htu h5 h5u h7 g2 g4 h64 (accOf_ok h3) (accOf_ok h4) hk)
              · exact OpOk.bad
            · exact OpOk.bad
          | true =>
            rw [cond_true]
            obtain rfl := beq_eq htu
            split
            · rename_i a b e h3 h4 h5
              split
              · rename_i z i h6 h7
                obtain ⟨i2, v, g1, g2, g3, g4, g5, g6, g7, g8⟩ := zeroB_spec h6
                rw [h7] at g1; injection g1 with g1; subst g1
                cases h64 : Nat.ble i.size 64 with
                | false => exact OpOk.bad
                | true =>
                  rw [cond_true, g7]
                  exact OpOk.l rfl (rAppend_ok h1 h2 h5 h7 g2 g4 g5 (Nat.le_of_ble_eq_true h64) (accOf_ok h3) (accOf_ok h4) hk)
              · exact OpOk.bad
            · exact OpOk.bad
        · exact OpOk.bad
      | clear =>
        unfold decOp decD
        dsimp only
        split
        · rename_i x t h1 h2
          split
          · rename_i a e h3 h4
            split
            · rename_i z h5
              cases hq : Nat.ble z.length 64 with
              | false => exact OpOk.bad
              | true =>
                rw [cond_true]
                exact OpOk.l rfl (rClear_ok h1 h2 h4 h5 (Nat.le_of_ble_eq_true hq) (accOf_ok h3) hk)
            · exact OpOk.bad
          · exact OpOk.bad
        · exact OpOk.bad
      | delete =>
        unfold decOp decD
        dsimp only
        split
        · rename_i x y t u h1 h2
          split
          · rename_i a b kt e h3 h4 h5
            split
            · rename_i str h6
              exact OpOk.l rfl (rDelete_ok h1 h2 h5 h6 (accOf_ok h3) (accOf_ok h4) hk)
            · exact OpOk.bad
          · exact OpOk.bad
        · exact OpOk.bad
      | len =>
        unfold decOp decD
        dsimp only
        split
        · rename_i x t h1 h2
          split
          · rename_i a e h3 h4
            exact OpOk.q rfl (rLen_ok h1 h2 h4 (accOf_ok h3) hk)
          · rename_i a h3 h4
            exact OpOk.q rfl (rLenS_ok h1 h2 h4 (accOf_ok h3) hk)
          · rename_i a kt e h3 h4
            exact OpOk.q rfl (rLenM_ok h1 h2 h4 (accOf_ok h3) hk)
          · exact OpOk.bad
        · exact OpOk.bad
      | _ => exact slow_of (fun _ => rfl) (fun _ _ => rfl) hk
  | makeMap mt r =>
    cases r with
    | some r => exact slow_of (fun _ => rfl) (fun _ _ => rfl) hk
    | none => exact OpOk.l rfl (rMakeMap_ok hk)
  | makeSlice st x y =>
    unfold decOp decD
    dsimp only
    split
    · rename_i e a b h1 h2 h3
      split
      · rename_i z i h4 h5
        cases hq : Nat.ble z.length 64 with
        | false => exact OpOk.bad
        | true => exact OpOk.q rfl (rMakeSlice_ok h1 h4 h5 (Nat.le_of_ble_eq_true hq) (accOf_ok h2) (accOf_ok h3) hk)
      · exact OpOk.bad
    · exact OpOk.bad
  | lookup mt x y ok =>
    unfold decOp decD
    dsimp only
    split
    · rename_i kt e a b h1 h2 h3
      split
      · rename_i str ie h4 h5
        cases hz : ie.zero with
        | none => exact OpOk.bad
        | some z =>
          dsimp only
          cases hq : svOk z with
          | false => exact OpOk.bad
          | true => exact OpOk.l rfl (rLookup_ok h1 h4 h5 hz (svOf_up hq) (accOf_ok h2) (accOf_ok h3) hk)
      · exact OpOk.bad
    · exact OpOk.bad
  | mapUpdate mt x y z =>
    unfold decOp decD
    dsimp only
    split
    · rename_i kt e a b c h1 h2 h3 h4
      split
      · rename_i str h5
        exact OpOk.l rfl (rMapUpdate_ok (q := false) h1 h5 (accOf_ok h2) (accOf_ok h3) (accOf_ok h4) hk)
      · exact OpOk.bad
    · exact OpOk.bad
  | range rt x =>
    unfold decOp decD
    dsimp only
    split
    · rename_i kt e a h1 h2
      exact OpOk.l rfl (rRange_ok h1 (accOf_ok h2) hk)
    · rename_i a h1 h2
      exact OpOk.l rfl (rRangeS_ok h1 (accOf_ok h2) hk)
    · exact OpOk.bad
  | next x q =>
    cases q with
    | false =>
      unfold decOp decD
      dsimp only
      cases hx : accOf gl n x with
      | none => exact OpOk.bad
      | some a => exact OpOk.l rfl (rNext_ok (accOf_ok hx) hk)
    | true =>
      unfold decOp decD
      dsimp only
      cases hx : accOf gl n x with
      | none => exact OpOk.bad
      | some a => exact OpOk.l rfl (rNextS_ok (accOf_ok hx) hk)
  | entry x =>
    unfold decOp decD
    dsimp only
    cases hx : accOf gl n x with
    | none => exact OpOk.bad
    | some a => exact OpOk.l (by rfl) (rEntry_ok (accOf_ok hx) hk)
  | insert mt x y z =>
    unfold decOp decD
    dsimp only
    split
    · rename_i kt e a b c h1 h2 h3 h4
      split
      · rename_i str h5
        exact OpOk.l rfl (rMapUpdate_ok (q := true) h1 h5 (accOf_ok h2) (accOf_ok h3) (accOf_ok h4) hk)
      · exact OpOk.bad
    · exact OpOk.bad
  | _ => exact slow_of (fun _ => rfl) (fun _ _ => rfl) hk
end
end
end Go.Proofs.YtnneooidkbhbeaaGreatDoor.Fast
