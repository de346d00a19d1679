/- A fast evaluator, part E: each operation, that it is the evaluator's. Of no program. -/
import Derived.Test.YtnneooidkbhbeaaGreatDoorEvD
import Derived.Test.YtnneooidkbhbeaaGreatDoorSimN
set_option linter.unusedVariables false
set_option linter.unusedSimpArgs false
namespace Go.Proofs.YtnneooidkbhbeaaGreatDoor.Fast
open Go Go.RowKit Go.Proofs.YtnneooidkbhbeaaGreatDoor.Sim
noncomputable section

/-- what is handed on -/
def Post (k : SV → FM → R) (v : Value) (A : AW) : Prop := ∃ sv F, sv.up = v ∧ MR F A ∧ k sv F = true
/-- a call's slots -/
structure ArgR (S : Sl) (args : Array Value) : Prop where
  size : args.size ≤ 512
  get : ∀ d, d < args.size → args[d]? = some (SV.up (Ls.get d S))
  rest : ∀ d, args.size ≤ d → d < 512 → SV.up (Ls.get d S) = undef
/-- what a Builder's check does, and its text -/
structure BldOk (P : Program) : Prop where
  used : ∀ {g te : Nat}, ckT P g = some te → ∀ (b : Nat) (w : World), w.cell? ⟨b, 0, none⟩ = some (.pointer (some ⟨b, 0, none⟩)) → Calls P g #[.pointer (some ⟨b, 0, none⟩)] w fun e w' => e = .returned (.tuple #[]) ∧ w' = w
  fresh : ∀ {g te : Nat}, ckT P g = some te → ∀ (b : Nat) (w : World) (c : Array Value), w.heap[b]? = some (.cells c te (0, 0)) → c.size = 2 → c[0]? = some (.pointer none) →
    Calls P g #[.pointer (some ⟨b, 0, none⟩)] w fun e w' => e = .returned (.tuple #[]) ∧ w' = w.setCell ⟨b, 0, none⟩ (.pointer (some ⟨b, 0, none⟩))
  textNil : ∀ {g te : Nat}, tkT P g = some te → ∀ (b : Nat) (w : World), w.cell? ⟨b, 1, none⟩ = some (.slice none 0 0) → Calls P g #[.pointer (some ⟨b, 0, none⟩)] w fun e w' => e = .returned (.string ⟨#[]⟩) ∧ w' = w.drew
  text : ∀ {g te tb : Nat}, tkT P g = some te → byteT P te = some tb → ∀ (b d cap : Nat) (w : World) (cur : Array Value) (l : List UInt8), w.cell? ⟨b, 1, none⟩ = some (.slice (some ⟨d, 0, none⟩) l.length cap) → w.heap[d]? = some (.cells cur tb (0, 0)) →
    l ≠ [] → l.length ≤ cap → l.length ≤ 1000000 → (∀ (j : Nat) (x : UInt8), l[j]? = some x → cur[j]? = some (.int .u8 x.toNat)) →
    Calls P g #[.pointer (some ⟨b, 0, none⟩)] w fun e w' => e = .returned (.string ⟨l.toArray⟩) ∧ w' = w.drew.freeze ⟨d, 0, none⟩ l.length
def RcOk (P : Program) (B : Nat) (w0 : Base) (rec : Rc) : Prop := BldOk P ∧ (∀ f S F A args k, f < yB → ArgR S args → MR F A → rec f S F k = true → CallS P B w0 f args A (Post k)) ∧
  (∀ b S F A args k (lp : Loop), b < 32768 → ArgR S args → MR F A → A.heap.get b = some ⟨.loop lp, false, false⟩ → args.size = lp.params.size → rec (yB + b) S F k = true → RoundW P B w0 b ((lp.params.zip args).foldl (fun tmps (p, a) => tmps.setIfInBounds p a) lp.tmps) lp.assign lp.body A (Post k)) ∧
  ∀ f S F A args k, f < yB → ArgR S args → MR F A → rec (dB + f) S F k = true → CallD P B w0 f args A (Post k)
def AccOk (n : Nat) (x : Operand) (a : Acc) : Prop := ∀ L t, SlR L t → n ≤ t.size → (a L).up = ev t x
section
variable {P : Program} {B : Nat} {w0 : Base} {n : Nat}
/-- a quiet operation -/
def QOk (P : Program) (n : Nat) (o : Oper) (c : Op1) : Prop := ∀ rec L F k t A, SlR L t → n ≤ t.size → MR F A → c rec L F k = true →
  match quietA P (ev t) A o with
  | some (.val v) => Post k v A
  | some (.ghost c e m) => A.room = true ∧ Post k (ghostV A.next m) (A.add ⟨.cells c e (0, 0), false, false⟩)
  | none => False
/-- a loud one -/
def LOk (P : Program) (B : Nat) (w0 : Base) (n : Nat) (o : Oper) (c : Op1) : Prop := ∀ rec L F k t A, RcOk P B w0 rec → SlR L t → n ≤ t.size → MR F A → c rec L F k = true →
  match opA P (ev t) o A with
  | some (.val v, A') => Post k v A'
  | some (.skip, A') => Post k undef A'
  | some (.enter f args, A') => CallS P B w0 f args A' (Post k)
  | some (.round b tmps a c, A') => RoundW P B w0 b tmps a c A' (Post k)
  | none => NextK (ev t) o A (Post k)
theorem QOk.val {o : Oper} {c : Op1} (h : ∀ rec L F k t A, SlR L t → n ≤ t.size → MR F A → c rec L F k = true → ∃ v, quietA P (ev t) A o = some (.val v) ∧ Post k v A) : QOk P n o c := by
  intro rec L F k t A h1 h2 h3 h4
  obtain ⟨v, g1, g2⟩ := h rec L F k t A h1 h2 h3 h4
  rw [g1]; exact g2
theorem QOk.bad {o : Oper} : QOk P n o rBad := fun _ _ _ _ _ _ _ _ _ h => not_bad h
theorem LOk.bad {o : Oper} : LOk P B w0 n o rBad := fun _ _ _ _ _ _ _ _ _ _ h => not_bad h
theorem quiet_pure {t : Operand → Value} {A : AW} {o : Oper} (hk : okOp o = true) (hc : cls t o = .pure) {v : Value} (hv : opQ P t o = some v) : quietA P t A o = some (.val v) := by
  unfold quietA
  rw [hk, cond_true, hc]
  dsimp only
  rw [hv]
theorem quiet_mem {t : Operand → Value} {A : AW} {o : Oper} (hk : okOp o = true) (hc : cls t o = .mem) {v : Value} (hv : opM P t A o = some v) : quietA P t A o = some (.val v) := by
  unfold quietA
  rw [hk, cond_true, hc]
  dsimp only
  rw [hv]
/-- .. by its value alone -/
theorem QOk.pure {o : Oper} {c : Op1} (hk : okOp o = true) (hc : ∀ t, cls t o = .pure) (h : ∀ rec L F k t, SlR L t → n ≤ t.size → c rec L F k = true → ∃ sv, opQ P (ev t) o = some (SV.up sv) ∧ k sv F = true) : QOk P n o c :=
  QOk.val fun rec L F k t A h1 h2 h3 h4 => by
    obtain ⟨sv, g1, g2⟩ := h rec L F k t h1 h2 h4
    exact ⟨_, quiet_pure hk (hc _) g1, sv, F, rfl, h3, g2⟩

theorem QOk.pureAt {o : Oper} {c : Op1} (hk : okOp o = true) (h : ∀ rec L F k t, SlR L t → n ≤ t.size → c rec L F k = true → ∃ sv, cls (ev t) o = .pure ∧ opQ P (ev t) o = some (SV.up sv) ∧ k sv F = true) : QOk P n o c :=
  QOk.val fun rec L F k t A h1 h2 h3 h4 => by
    obtain ⟨sv, g0, g1, g2⟩ := h rec L F k t h1 h2 h4
    exact ⟨_, quiet_pure hk g0 g1, sv, F, rfl, h3, g2⟩

variable {dst : Option Tmp} {ty : TypeId} {pos : String} {after : Array Edge} {guard : Option (Nat × Bool)}
theorem cls_len {args : Array Operand} {ts : Array TypeId} {x : Operand} {t : Operand → Value} (hargs : args.toList = [x]) (hx : ∀ b, t x ≠ .map (some b)) : cls t ⟨dst, .call ⟨.builtin .len, args, ts⟩, ty, pos, after, guard⟩ = .pure := by
  unfold cls
  dsimp only
  rw [hargs]
  dsimp only
  split
  · rename_i b hb
    exact absurd hb (hx b)
  · rfl
theorem rMove_ok {x : Operand} {a : Acc} (ha : AccOk n x a) (hk : okOp ⟨dst, .move x, ty, pos, after, guard⟩ = true) : QOk P n ⟨dst, .move x, ty, pos, after, guard⟩ (rMove a) :=
  QOk.pure hk (fun _ => rfl) fun rec L F k t h1 h2 h => by
    have h' : svF (a L) (fun v => k v F) = true := h
    rw [svF_eq] at h'
    exact ⟨a L, by rw [ha L t h1 h2]; rfl, h'⟩
theorem rAssign_ok {x : Operand} {a : Acc} (ha : AccOk n x a) (hk : okOp ⟨dst, .assign x, ty, pos, after, guard⟩ = true) : QOk P n ⟨dst, .assign x, ty, pos, after, guard⟩ (rMove a) :=
  QOk.pure hk (fun _ => rfl) fun rec L F k t h1 h2 h => by
    have h' : svF (a L) (fun v => k v F) = true := h
    rw [svF_eq] at h'
    exact ⟨a L, by rw [ha L t h1 h2]; rfl, h'⟩
theorem rPick_ok {x y z : Operand} {a b c : Acc} (ha : AccOk n x a) (hb : AccOk n y b) (hc : AccOk n z c) (hk : okOp ⟨dst, .pick x y z, ty, pos, after, guard⟩ = true) : QOk P n ⟨dst, .pick x y z, ty, pos, after, guard⟩ (rPick a b c) :=
  QOk.pure hk (fun _ => rfl) fun rec L F k t h1 h2 h => by
    obtain ⟨q, h3, h4⟩ := boolK_true h
    have e1 := ha L t h1 h2
    rw [h3] at e1
    refine ⟨bif q then b L else c L, ?_, ?_⟩
    · show (match ev t x with | .bool q => some (bif q then ev t y else ev t z) | _ => none) = _
      rw [← e1, ← hb L t h1 h2, ← hc L t h1 h2]
      cases q <;> rfl
    · cases q with
      | true => have h5 : svF (b L) (fun v => k v F) = true := h4; rw [svF_eq] at h5; exact h5
      | false => have h5 : svF (c L) (fun v => k v F) = true := h4; rw [svF_eq] at h5; exact h5
theorem rNilCheck_ok {x : Operand} {a : Acc} (ha : AccOk n x a) (hk : okOp ⟨dst, .nilCheck x, ty, pos, after, guard⟩ = true) : QOk P n ⟨dst, .nilCheck x, ty, pos, after, guard⟩ (rNilCheck a) :=
  QOk.pure hk (fun _ => rfl) fun rec L F k t h1 h2 h => by
    obtain ⟨v, h3, h4⟩ := valK_true h
    have e1 := ha L t h1 h2
    rw [h3] at e1
    show ∃ sv, (match ev t x with | .pointer (some a) => some (.pointer (some a)) | .func (.func f) a b => some (.func (.func f) a b) | _ => none) = some (SV.up sv) ∧ _
    rw [← e1]
    cases v <;> first
      | exact not_bad h4
      | exact ⟨_, rfl, h4⟩
theorem rNot_ok {s : TypeId} {x : Operand} {a : Acc} (ha : AccOk n x a) (hk : okOp ⟨dst, .unOp .not s x, ty, pos, after, guard⟩ = true) : QOk P n ⟨dst, .unOp .not s x, ty, pos, after, guard⟩ (rNot a) :=
  QOk.pure hk (fun _ => rfl) fun rec L F k t h1 h2 h => by
    obtain ⟨q, h3, h4⟩ := boolK_true h
    have e1 := ha L t h1 h2
    rw [h3] at e1
    rw [boolF_eq] at h4
    refine ⟨_, ?_, h4⟩
    show freeQ P (ev t) _ = _
    unfold freeQ
    have e2 : (Op.unOp UnOp.not s x).operands.toList.all (fun y => free (ev t y)) = true := by
      show List.all [x] _ = true
      simp [← e1, SV.up, FV.up, free, freeD, leafFree]
    simp only [e2, isSel, Bool.not_false, Bool.and_self, cond_true]
    simp only [execOp, ← e1, SV.up, FV.up]
    cases q <;> rfl
theorem rExtract_ok {x : Operand} {i : Nat} {a : Acc} (ha : AccOk n x a) (hk : okOp ⟨dst, .extract x i, ty, pos, after, guard⟩ = true) : QOk P n ⟨dst, .extract x i, ty, pos, after, guard⟩ (rExtract i a) :=
  QOk.pure hk (fun _ => rfl) fun rec L F k t h1 h2 h => by
    have e1 := ha L t h1 h2
    have key : ∀ (i : Nat) (s : SV) (k : SV → R), exK i s k = true → ∃ sv, s.tl[i]? = some sv.up ∧ k sv = true ∧ ∃ a b, s = .cons a b := by
      intro i
      induction i with
      | zero =>
        intro s k h
        cases s with
        | cons a b =>
          have h : hd1 a k = true := h
          cases a with
          | val v => exact ⟨.val v, rfl, h, _, _, rfl⟩
          | row n f => exact ⟨.row n f, rfl, h, _, _, rfl⟩
          | nil => exact not_bad h
          | cons c d => exact not_bad h
        | _ => exact not_bad h
      | succ i ih =>
        intro s k h
        cases s with
        | cons a b =>
          obtain ⟨sv, g1, g2, _⟩ := ih b k h
          refine ⟨sv, ?_, g2, _, _, rfl⟩
          cases a <;> (show (_ :: SV.tl b)[i + 1]? = _; rw [List.getElem?_cons_succ]; exact g1)
        | _ => exact not_bad h
    obtain ⟨sv, g1, g2, c, d, g3⟩ := key i (a L) (fun a => k a F) h
    refine ⟨sv, ?_, g2⟩
    show pureRun P (Instr.extract (ev t x) i) = _
    rw [← e1, g3]
    show pureRun P (Instr.extract (.tuple ⟨(SV.cons c d).tl⟩) i) = _
    rw [g3] at g1
    unfold Instr.extract
    have g4 : (⟨(SV.cons c d).tl⟩ : Array Value)[i]? = some sv.up := by rw [← g1]; exact List.getElem?_toArray
    dsimp only
    rw [g4]
    rfl
end
end
end Go.Proofs.YtnneooidkbhbeaaGreatDoor.Fast
