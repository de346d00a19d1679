/- A fast evaluator, part W: a call that begins where tables of integers stand (package-level variables that nothing writes). Of no program. -/
import Derived.Test.YtnneooidkbhbeaaGreatDoorEvO
import Derived.Test.YtnneooidkbhbeaaGreatDoorEvV
set_option linter.unusedVariables false
set_option linter.unusedSimpArgs false
namespace Go.Proofs.YtnneooidkbhbeaaGreatDoor.Fast
open Go Go.RowKit Go.Proofs.YtnneooidkbhbeaaGreatDoor.Sim
noncomputable section
/-- a table: a variable of m rows of s cells -/
structure TabE where
  g : Nat
  e : TypeId
  s : Nat
  m : Nat
  l : List Value
def TabE.ok (N : Nat) (t : TabE) : Bool := Nat.blt 0 t.s && Nat.ble t.s 64 && Nat.ble t.m 512 && Nat.beq t.l.length (t.m * t.s) && t.l.all oneB && t.l.all leafFree && Nat.blt t.g N
def glT (T : List TabE) (g : Nat) : Bool := T.any fun t => Nat.beq t.g g
def rowP : List Value → Nat → Ro → (Ro → R) → R
  | [], _, f, k => k f
  | v :: l, i, f, k => (w64 FV i).put (fvOf v) f fun f => num (Nat.succ i) fun i => rowP l i f k
def rowsP (s : Nat) : Nat → List Value → Nat → Rows → (Rows → R) → R
  | 0, _, _, r, k => k r
  | m + 1, l, i, r, k => rowP (l.take s) 0 row0 fun x => (w512 Ro i).put x r fun r => num (Nat.succ i) fun i => rowsP s m (l.drop s) i r k
def startP : List TabE → Hp → (Hp → R) → R
  | [], H, k => k H
  | t :: T, H, k => rowsP t.s t.m t.l 0 rows0 fun r => (w32768 FO t.g).put (.blk r t.m t.s t.e false true) H fun H => startP T H k
/-- a call that begins where tables stand answers true -/
def saysTrueT (P : Program) (T : List TabE) (N fuel n : Nat) (f : FuncId) : R := startP T heap0 fun H => callF (glT T) P fuel n f slots0 ⟨H, N⟩ fun v _ => boolK v fun b => b

theorem rowP_eq : ∀ (l : List Value) (i : Nat) (f : Ro) (k : Ro → R), i + l.length ≤ 64 → rowP l i f k = k (rowOf l i f)
  | [], _, _, _, _ => rfl
  | v :: l, i, f, k, h => by
    have h : i + (l.length + 1) ≤ 64 := h
    unfold rowP
    rw [w64_put (by omega), num_eq, rowP_eq l (Nat.succ i) _ k (by omega)]
    rfl
theorem rowsP_eq (s : Nat) (hs : s ≤ 64) : ∀ (m : Nat) (l : List Value) (i : Nat) (r : Rows) (k : Rows → R), i + m ≤ 512 → rowsP s m l i r k = k (rowsOf s m l i r)
  | 0, _, _, _, _, _ => rfl
  | m + 1, l, i, r, k, h => by
    unfold rowsP
    rw [rowP_eq _ _ _ _ (by rw [List.length_take]; omega), w512_put (by omega), num_eq, rowsP_eq s hs m _ _ _ k (by omega)]
    rfl
def foOf (t : TabE) : FO := .blk (rowsOf t.s t.m t.l 0 rows0) t.m t.s t.e false true
def abOf (t : TabE) : ABk := ⟨.cells ⟨t.l⟩ t.e (0, 0), false, true⟩
def heapT : List TabE → Hp → Hp
  | [], H => H
  | t :: T, H => heapT T (Lh.set t.g (foOf t) H)
def memA : List TabE → AW → AW
  | [], A => A
  | t :: T, A => memA T (A.put t.g (some (abOf t)))
theorem TabE.ok_of {N : Nat} {t : TabE} (h : t.ok N = true) : 0 < t.s ∧ t.s ≤ 64 ∧ t.m ≤ 512 ∧ t.l.length = t.m * t.s ∧ (∀ v ∈ t.l, oneB v = true) ∧ (∀ v ∈ t.l, leafFree v = true) ∧ t.g < N := by
  unfold TabE.ok at h
  simp only [Bool.and_eq_true] at h
  obtain ⟨⟨⟨⟨⟨⟨h1, h2⟩, h3⟩, h4⟩, h5⟩, h6⟩, h7⟩ := h
  exact ⟨blt_lt h1, Nat.le_of_ble_eq_true h2, Nat.le_of_ble_eq_true h3, beq_eq h4, List.all_eq_true.1 h5, List.all_eq_true.1 h6, blt_lt h7⟩
theorem startP_eq {N : Nat} (hN : N ≤ 32768) : ∀ (T : List TabE) (H : Hp) (k : Hp → R), T.all (TabE.ok N) = true → startP T H k = k (heapT T H)
  | [], _, _, _ => rfl
  | t :: T, H, k, h => by
    rw [List.all_cons, Bool.and_eq_true] at h
    obtain ⟨h1, h2, h3, h4, h5, h6, h7⟩ := TabE.ok_of h.1
    unfold startP
    rw [rowsP_eq t.s h2 _ _ _ _ _ (by omega), w32768_put (by omega), startP_eq hN T _ k h.2]
    rfl
theorem memT {N : Nat} (hN : N ≤ 32768) : ∀ (T : List TabE) (H : Hp) (A : AW) (q : Nat), T.all (TabE.ok N) = true → MR ⟨H, q⟩ A → MR ⟨heapT T H, q⟩ (memA T A)
  | [], _, _, _, _, h => h
  | t :: T, H, A, q, h, hM => by
    rw [List.all_cons, Bool.and_eq_true] at h
    obtain ⟨h1, h2, h3, h4, h5, h6, h7⟩ := TabE.ok_of h.1
    refine memT hN T _ _ q h.2 ?_
    refine MR.putA (F := ⟨H, q⟩) hM (by omega) ?_
    refine .blk h1 h2 h3 h4 fun j hj => ?_
    rw [← rowsOf_cell h1 h2 h3 h4 h5 hj rows0]
    exact (List.getElem?_toArray ..).symm ▸ rfl
theorem memA_next : ∀ (T : List TabE) (A : AW), (memA T A).next = A.next
  | [], _ => rfl
  | t :: T, A => memA_next T _
theorem memA_get {N : Nat} (hN : N ≤ 32768) : ∀ (T : List TabE) (A : AW), T.all (TabE.ok N) = true → ∀ b x, (memA T A).heap.get b = some x → (∃ t ∈ T, t.g = b ∧ x = abOf t) ∨ A.heap.get b = some x
  | [], _, _, _, _, h => .inr h
  | t :: T, A, h, b, x, hx => by
    rw [List.all_cons, Bool.and_eq_true] at h
    obtain ⟨h1, h2, h3, h4, h5, h6, h7⟩ := TabE.ok_of h.1
    rcases memA_get hN T _ h.2 b x hx with ⟨u, q1, q2⟩ | q
    · exact .inl ⟨u, List.mem_cons_of_mem _ q1, q2⟩
    · rw [AW.put_at (by omega)] at q
      by_cases hb : b = t.g
      · rw [if_pos hb] at q
        injection q with q
        exact .inl ⟨t, List.mem_cons_self, hb.symm, q.symm⟩
      · rw [if_neg hb] at q
        exact .inr q
/-- a world where the tables stand -/
def StandT (T : List TabE) (w : World) : Prop := ∀ t ∈ T, ∃ e f, w.heap[t.g]? = some (.cells ⟨t.l⟩ e f)
def renT (T : List TabE) : Ren := fun b => if glT T b = true then some ⟨b, false, true, 0, 0⟩ else none
theorem glT_iff {T : List TabE} {g : Nat} : glT T g = true ↔ ∃ t ∈ T, t.g = g := by
  unfold glT
  rw [List.any_eq_true]
  exact ⟨fun ⟨t, h1, h2⟩ => ⟨t, h1, beq_eq h2⟩, fun ⟨t, h1, h2⟩ => ⟨t, h1, by rw [h2]; exact Nat.beq_refl g⟩⟩
theorem standT {P : Program} {T : List TabE} {N : Nat} (hN : N ≤ 32767) (hT : T.all (TabE.ok N) = true) {w : World} (hw : StandT T w) :
    SR P w.heap.size ((Base.but ⟨w, fun _ _ => False, glT T, none, []⟩ fun _ _ => False).marked []) (renT T) (memA T ⟨.leaf, N⟩) w := by
  have hn : (memA T ⟨.leaf, N⟩).next = N := memA_next T _
  have hlt : ∀ g, glT T g = true → g < N := by
    intro g hg
    obtain ⟨t, h1, rfl⟩ := glT_iff.1 hg
    exact (TabE.ok_of (List.all_eq_true.1 hT t h1)).2.2.2.2.2.2
  have hren : ∀ b i, renT T b = some i → glT T b = true ∧ i = ⟨b, false, true, 0, 0⟩ := by
    intro b i hb
    unfold renT at hb
    split at hb
    · rename_i hg; injection hb with hb; exact ⟨hg, hb.symm⟩
    · cases hb
  have hget : ∀ b x, (memA T ⟨.leaf, N⟩).heap.get b = some x → ∃ t ∈ T, t.g = b ∧ x = abOf t := by
    intro b x hx
    rcases memA_get (by omega) T _ hT b x hx with h | h
    · exact h
    · cases h
  refine ⟨Below.refl _ _, Nat.le_refl _, fun b i hb => ?_, ?_, fun b x hx => ?_, fun b x hb => hb.elim, fun b x i hx hi => ?_, fun b c x y i j hx hy hi hj he => ?_, fun g hg => ?_, List.nodup_nil, fun r hr => by cases hr⟩
  · rw [hn]; exact hlt b (hren b i hb).1
  · rw [hn]
    have : 2 ^ Sim.bits = 1073741824 := by decide
    omega
  · obtain ⟨t, h1, h2, _⟩ := hget b x hx
    rw [hn, ← h2]
    exact (TabE.ok_of (List.all_eq_true.1 hT t h1)).2.2.2.2.2.2
  · obtain ⟨hg, rfl⟩ := hren b i hi
    obtain ⟨t, h1, h2, rfl⟩ := hget b x hx
    obtain ⟨e, f, h3⟩ := hw t h1
    refine ⟨.inl rfl, _, by rw [h2] at h3; exact h3, ?_⟩
    refine .tab rfl rfl ⟨rfl, fun j hj _ => leafFree_rel _ ?_⟩
    exact (TabE.ok_of (List.all_eq_true.1 hT t h1)).2.2.2.2.2.1 _ (by simp)
  · obtain ⟨_, rfl⟩ := hren b i hi
    obtain ⟨_, rfl⟩ := hren c j hj
    exact he
  · refine ⟨⟨g, false, true, 0, 0⟩, ?_, rfl⟩
    unfold renT
    exact if_pos hg
/-- what says true where tables stand is true in every world where they stand -/
theorem saysT {P : Program} (G : Sim.Good P) (hBld : BldOk P) {T : List TabE} {N fuel m : Nat} {f : FuncId} (hN : Nat.ble N 32767 = true) (hT : T.all (TabE.ok N) = true) (hf : Nat.blt f yB = true) (h : saysTrueT P T N fuel m f = true) (w : World) (hw : StandT T w) : Calls P f #[] w fun e w' => e = .returned (.bool true) ∧ Below w.heap.size w w' := by
  have hN' : N ≤ 32767 := Nat.le_of_ble_eq_true hN
  unfold saysTrueT at h
  rw [startP_eq (N := N) (by omega) T _ _ hT, callF_eq] at h
  have hM : MR ⟨heapT T heap0, N⟩ (memA T ⟨.leaf, N⟩) := memT (N := N) (by omega) T _ _ N hT ⟨rfl, fun b hb => emptyF_ok.blk b hb⟩
  have := (callK_ok (B := w.heap.size) G hBld fuel m ⟨w, fun _ _ => False, glT T, none, []⟩).2.1 f slots0 ⟨heapT T heap0, N⟩ (memA T ⟨.leaf, N⟩) #[] _ (blt_lt hf) slots0_arg hM h
  refine (this (fun _ _ => False) [] _ w #[] (standT hN' hT hw) (AR.empty _)).mono ?_
  rintro e w' ⟨ρ', v, v', A', g1, ⟨sv, F', q1, q2, q3⟩, g3, g4, g5⟩
  obtain ⟨b, rfl, q4⟩ := boolK_true q3
  rw [q4] at q1
  subst q1
  rw [g1]
  cases g5 with
  | bool => exact ⟨rfl, g4.below⟩
end
end Go.Proofs.YtnneooidkbhbeaaGreatDoor.Fast
