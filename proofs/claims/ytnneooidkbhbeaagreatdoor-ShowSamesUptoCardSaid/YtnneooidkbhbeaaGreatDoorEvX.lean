/- A fast evaluator, part X: a strings.Builder's check, and its text, by what they are known to do. Of no program. -/
import Derived.Test.YtnneooidkbhbeaaGreatDoorEvS
set_option linter.unusedVariables false
set_option linter.unusedSimpArgs false
namespace Go.Proofs.YtnneooidkbhbeaaGreatDoor.Fast
open Go Go.RowKit Go.Proofs.YtnneooidkbhbeaaGreatDoor.Sim
noncomputable section
section
variable {P : Program} {B : Nat} {w0 : Base} {n : Nat} {gl : Nat → Bool} {dst : Option Tmp} {ty : TypeId} {pos : String} {after : Array Edge} {guard : Option (Nat × Bool)}
/-- a block that is another one, or is frozen, and is not looked at any more -/
theorem SR.lost {ρ : Ren} {A : AW} {w : World} (h : SR P B w0 ρ A w) {b : Nat} {x : ABk} {i : Info} (hx : A.heap.get b = some x) (hi : ρ b = some i) (hro : i.ro = false)
    {w' : World} (hos : w'.os = w.os) (htp : w'.tape = w.tape) (hout : w'.output = w.output) (hsz : w'.heap.size = w.heap.size) (hk : ∀ k, k ≠ i.g → w'.heap[k]? = w.heap[k]?) : SR P B w0 ρ (A.put b none) w' := by
  have hb : b < A.next := h.dom b i hi
  have hB : B ≤ i.g := by
    obtain ⟨hB, _⟩ := h.blk b x i hx hi
    rcases hB with hB | hB
    · rw [hro] at hB; cases hB
    · exact hB
  refine ⟨⟨hos.trans h.below.os, htp.trans h.below.tape, hout.trans h.below.output, by rw [hsz]; exact h.below.size, fun k hk' => (hk k (by omega)).trans (h.below.block k hk')⟩, h.low, h.dom, h.room, fun c z hz => ?_, fun c z hc => ⟨(h.off c z hc).1, by
    rw [put_get h.room hb, if_neg (by intro e; subst e; rw [(h.off c z hc).1] at hi; cases hi)]
    exact (h.off c z hc).2⟩, fun c z j hz hj => ?_, fun c d z z' j j' hz hz' hj hj' he => ?_, h.glo, ⟨h.marks.1, fun r hr => ?_⟩⟩
  · rw [put_get h.room hb] at hz
    split at hz
    · cases hz
    · exact h.lt c z hz
  · rw [put_get h.room hb] at hz
    split at hz
    · cases hz
    · rename_i hcb
      obtain ⟨hBj, o', hg, hor⟩ := h.blk c z j hz hj
      exact ⟨hBj, o', by rw [hk j.g (fun e => hcb (h.apart c b z x j i hz hx hj hi e))]; exact hg, hor⟩
  · rw [put_get h.room hb] at hz hz'
    split at hz
    · cases hz
    · split at hz'
      · cases hz'
      · exact h.apart c d z z' j j' hz hz' hj hj' he
  · obtain ⟨m1, m2, m3⟩ := h.marks.2 r hr
    refine ⟨m1, (hk r (fun e => m3 b x i hx hi e.symm)).trans m2, fun c z j hz hj => ?_⟩
    rw [put_get h.room hb] at hz
    split at hz
    · cases hz
    · exact m3 c z j hz hj
theorem SR.drew {ρ : Ren} {A : AW} {w : World} (hs : SR P B w0 ρ A w) : SR P B w0 ρ A w.drew :=
  ⟨hs.below.drew, hs.low, hs.dom, hs.room, hs.lt, hs.off, hs.blk, hs.apart, hs.glo, hs.marks⟩
theorem bldT_has {g m te : Nat} {nm : String} (h : bldT P g m nm = some te) : hasB P g = true := by
  unfold bldT at h
  unfold hasB
  cases hf : P.funcs[g]? with
  | none => rw [hf] at h; cases h
  | some fn =>
    rw [hf] at h
    dsimp only at h
    cases hq : (Nat.beq fn.ntmps m && (Nat.blt g yB && fn.body.isSome) && (fn.name == nm)) with
    | false => rw [hq] at h; cases h
    | true =>
      simp only [Bool.and_eq_true] at hq
      rw [hq.1.2.1, cond_true]
      exact hq.1.2.2
theorem not_true {b : Bool} (h : Bool.not b = true) : b = false := by cases b <;> first | rfl | cases h
theorem evs_one (t : Operand → Value) {args : Array Operand} {x : Operand} (h : args.toList = [x]) : #[] ++ evs t args ++ #[] = #[t x] := by
  have : args = #[x] := Array.toList_inj.1 h
  subst this
  simp [evs]
theorem args_ptr {ρ : Ren} {b o : Nat} {args' : Array Value} (h : AR ρ #[.pointer (some ⟨b, o, none⟩)] args') : ∃ i, ρ b = some i ∧ args' = #[.pointer (some ⟨i.g, o, none⟩)] := by
  obtain ⟨v', g1, g2⟩ := h.at (j := 0) (v := .pointer (some ⟨b, o, none⟩)) rfl
  have h0 : args'.size = 1 := h.1.symm
  cases g2 with
  | ptr hi =>
    refine ⟨_, hi, Array.ext_getElem? fun j => ?_⟩
    by_cases hj : j = 0
    · subst hj; rw [g1]; rfl
    · rw [Array.getElem?_eq_none (by omega), Array.getElem?_eq_none (by simp; omega)]
theorem rCk_ok {g te : Nat} {args : Array Operand} {ts : Array TypeId} {x : Operand} {a : Acc} (hx : args.toList = [x]) (ha : AccOk n x a) (hg : ckT P g = some te) (hk : okOp ⟨dst, .call ⟨.value (.func g), args, ts⟩, ty, pos, after, guard⟩ = true) :
    LOk P B w0 n ⟨dst, .call ⟨.value (.func g), args, ts⟩, ty, pos, after, guard⟩ (rCk te a) := by
  intro rec L F k t A hR h1 h2 hM h
  obtain ⟨b, o, h3, h4⟩ := ptrK_true h
  obtain ⟨h5, h6⟩ := ifK_true h4
  obtain rfl := beq_eq h5
  obtain ⟨hb, rows, m, esz, e, fam, ro, h7, h8⟩ := blkK_true h6
  obtain ⟨q1, k1⟩ := ifK_true h8
  obtain ⟨q2, k2⟩ := ifK_true k1
  obtain ⟨q3, k3⟩ := ifK_true k2
  obtain ⟨q4, k4⟩ := ifK_true k3
  obtain ⟨q5, k5⟩ := ifK_true k4
  clear h8 k1 k2 k3 k4 h6 h4 h
  obtain rfl := beq_eq q1
  obtain rfl := beq_eq q2
  obtain rfl : te = e := (beq_eq q3).symm
  obtain rfl := not_true q4
  obtain rfl := not_true q5
  have h8 := k5
  clear k5
  obtain ⟨c, hc⟩ := hM.at hb h7
  have h11 : 0 < 1 * 2 := by decide
  rw [wCell_get h11 hc.h0 hc.h1 hc.h2] at h8
  have e1 : ev t x = .pointer (some ⟨b, 0, none⟩) := (ha L t h1 h2).symm.trans (by rw [h3]; rfl)
  rw [opA_call hk (show ev t (.func g) = .func (.func g) #[] #[] from rfl) (bldT_has hg)]
  dsimp only
  rw [evs_one _ hx, e1]
  have hcell := hc.cell 0 h11
  generalize hu : cellAt rows 2 0 = u at h8 hcell
  intro Γ M ρ w args' hs hargs
  obtain ⟨i, hi, rfl⟩ := args_ptr hargs
  have hsz : c.size = 2 := hc.size
  cases u with
  | ptr b' o' =>
    obtain ⟨q6, h9⟩ := ifK_true (show ifK (Nat.beq b' b) (ifK (Nat.beq o' 0) (k .nil F) bad) bad = true from h8)
    obtain ⟨q7, h9⟩ := ifK_true h9
    obtain rfl := beq_eq q6
    obtain rfl := beq_eq q7
    have hA : A.cell? ⟨b', 0, none⟩ = some (.pointer (some ⟨b', 0, none⟩)) := by
      unfold AW.cell?
      rw [hc.get]
      exact hcell
    obtain ⟨v', g1, g2⟩ := hs.cell hi hA
    have g3 : v' = .pointer (some ⟨i.g, 0, none⟩) := by
      cases g2 with
      | ptr h10 => rw [hi] at h10; injection h10 with h10; rw [h10]
    subst g3
    refine (hR.1.used hg i.g w g1).mono ?_
    rintro e w' ⟨rfl, rfl⟩
    exact ⟨ρ, .tuple #[], .tuple #[], A, rfl, ⟨.nil, F, rfl, hM, h9⟩, Ren.le_refl _, hs, VR.mkTuple (AR.empty ρ)⟩
  | val v =>
    have hv : v = .pointer none ∧ (wCell 0 2).put (.ptr b 0) rows (fun rows => putF b (.blk rows 1 2 te false false) F fun F => k .nil F) = true := by
      have h8 : nilP v _ = true := h8
      unfold nilP at h8
      split at h8
      · exact ⟨rfl, h8⟩
      · exact not_bad h8
    obtain ⟨rfl, h9⟩ := hv
    rw [wCell_put h11 hc.h0 hc.h1 hc.h2] at h9
    have h13 := putF_true hb h9
    obtain ⟨hB, o', hg', hor⟩ := hs.blk b _ i hc.get hi
    cases hor with
    | exact r1 r2 r3 r4 =>
      rename_i c' f'
      subst r4
      have hc0 : c'[0]? = some (.pointer none) := by
        obtain ⟨v', g1, g2⟩ := r3.at hcell
        rw [g1]
        cases g2
        rfl
      refine (hR.1.fresh hg i.g w c' hg' (by rw [← r3.1]; exact hsz) hc0).mono ?_
      rintro e w' ⟨rfl, rfl⟩
      have hlt : i.g < w.heap.size := (Array.getElem?_eq_some_iff.1 hg').1
      refine ⟨ρ, .tuple #[], .tuple #[], A.put b (some ⟨.cells (c.setIfInBounds 0 (.pointer (some ⟨b, 0, none⟩))) te (0, 0), false, false⟩), rfl, ⟨.nil, _, rfl, hM.putA hb ?_, h13⟩, Ren.le_refl _, ?_, VR.mkTuple (AR.empty ρ)⟩
      · refine .blk hc.h0 hc.h1 hc.h2 (by rw [Array.size_setIfInBounds]; exact hc.size) fun j hj => ?_
        rw [cell_set h11 hc.h0 hc.h1 hc.h2 _ _ hj, Array.getElem?_setIfInBounds]
        by_cases hj0 : j = 0
        · subst hj0
          rw [if_pos rfl, if_pos rfl, if_pos (by rw [hsz]; decide)]
          rfl
        · rw [if_neg (fun e => hj0 e.symm), if_neg hj0]
          exact hc.cell j hj
      · refine hs.change hc.get hi r1 (.exact r1 r2 (r3.set 0 (.ptr hi)) rfl) rfl rfl rfl ?_ ?_ ?_
        · simp [World.setCell]
        · simp [World.setCell, Array.getElem?_modify, hg']
        · intro k hk
          simp [World.setCell, Array.getElem?_modify, Ne.symm hk]
  | _ => exact not_bad h8
theorem bytesK_true {rows : Rows} {n2 : Nat} (h2 : n2 ≤ 512) : ∀ (m i j z : Nat) {k : Nat → R}, i + m ≤ n2 → z < 2 ^ j → bytesK rows m i j z k = true →
    ∃ l : List Nat, l.length = m ∧ (∀ p x, l[p]? = some x → cellAt rows 1 (i + p) = .int .u8 (Int.ofNat x) ∧ x < 256) ∧ k (z + (l.foldr (fun x r => x + 256 * r) 0) * 2 ^ j) = true
  | 0, i, j, z, k, _, _, h => ⟨[], rfl, fun p x hp => by simp at hp, by show k (z + 0 * 2 ^ j) = true; rw [Nat.zero_mul, Nat.add_zero]; exact h⟩
  | m + 1, i, j, z, k, hi, hz, h => by
    have h : intV ((wCell i 1).get rows) (fun q c => natV c fun c => ifK (Nat.beq (kix q) (kix .u8)) (ifK (Nat.blt c 256) (num (Nat.add z (Nat.mul c (Nat.pow 2 j))) fun z => num (Nat.succ i) fun i => num (Nat.add j 8) fun j => bytesK rows m i j z k) bad) bad) = true := h
    rw [wCell_get (n := n2) (by omega) (by decide) (by decide) h2] at h
    generalize hu : cellAt rows 1 i = u at h
    cases u with
    | int q c =>
      obtain ⟨c, rfl, ha⟩ := natV_true (show natV c _ = true from h)
      obtain ⟨q1, hb⟩ := ifK_true ha
      obtain ⟨q2, hd⟩ := ifK_true hb
      clear h ha hb
      have q3 : q = .u8 := by revert q1; cases q <;> decide
      subst q3
      have hc : c < 256 := blt_lt q2
      have hp8 : 2 ^ (j + 8) = 256 * 2 ^ j := by rw [Nat.pow_add]; omega
      have hz' : z + c * 2 ^ j < 2 ^ (j + 8) := by
        rw [hp8]
        have : (c + 1) * 2 ^ j ≤ 256 * 2 ^ j := Nat.mul_le_mul_right _ hc
        rw [Nat.add_mul] at this
        omega
      obtain ⟨l, g1, g2, g3⟩ := bytesK_true h2 m (i + 1) (j + 8) (z + c * 2 ^ j) (k := k) (by omega) hz' hd
      refine ⟨c :: l, by simp [g1], fun p x hp => ?_, ?_⟩
      · cases p with
        | zero =>
          have : c = x := by simpa using hp
          subst this
          exact ⟨hu, hc⟩
        | succ p =>
          have := g2 p x (by simpa using hp)
          rwa [show i + 1 + p = i + (p + 1) by omega] at this
      · have e : z + c * 2 ^ j + (l.foldr (fun x r => x + 256 * r) 0) * 2 ^ (j + 8) = z + ((c :: l).foldr (fun x r => x + 256 * r) 0) * 2 ^ j := by
          rw [List.foldr_cons, hp8, Nat.add_mul, Nat.mul_comm 256 (List.foldr _ _ _), Nat.mul_assoc]
          omega
        rw [← e]; exact g3
    | _ => exact not_bad h
theorem foldr_at : ∀ (l : List Nat), (∀ x ∈ l, x < 256) → ∀ p, ((l.foldr (fun x r => x + 256 * r) 0) >>> (8 * p)) % 256 = l.getD p 0
  | [], _, p => by simp
  | c :: l, h, 0 => by
    have := h c (by simp)
    simp only [List.foldr_cons, Nat.mul_zero, Nat.shiftRight_zero, List.getD_cons_zero]
    omega
  | c :: l, h, p + 1 => by
    have hc := h c (by simp)
    rw [List.getD_cons_succ, ← foldr_at l (fun x hx => h x (by simp [hx])) p, List.foldr_cons, show 8 * (p + 1) = 8 + 8 * p by omega, Nat.shiftRight_add]
    congr 2
    rw [Nat.shiftRight_eq_div_pow]
    omega
theorem bytesOf_foldr (l : List Nat) (h : ∀ x ∈ l, x < 256) : bytesOf l.length (l.foldr (fun x r => x + 256 * r) 0) = ⟨(l.map UInt8.ofNat).toArray⟩ := by
  unfold bytesOf
  congr 1
  apply Array.toList_inj.1
  apply List.ext_getElem?
  intro p
  simp only [List.getElem?_map]
  by_cases hp : p < l.length
  · rw [List.getElem?_range hp, List.getElem?_eq_getElem hp]
    simp only [Option.map_some, Option.some.injEq]
    apply UInt8.toNat_inj.1
    have h2 := foldr_at l h p
    rw [List.getD_eq_getElem?_getD, List.getElem?_eq_getElem hp] at h2
    have h3 := h l[p] (List.getElem_mem hp)
    show (Nat.shiftRight _ _) % 256 = l[p] % 256
    rw [Nat.mod_eq_of_lt h3]
    exact h2
  · rw [List.getElem?_eq_none (by simp; omega), List.getElem?_eq_none (by omega)]
    rfl
theorem nilK_slc {x : FV} {k0 : Nat → Nat → R} {k : Nat → Nat → Nat → Nat → R} (h : slcV x k0 k = true) : (∃ n c, x = .nilS n c ∧ k0 n c = true) ∨ ∃ b o n c, x = .slc b o n c ∧ k b o n c = true := by
  cases x <;> first | exact .inl ⟨_, _, rfl, h⟩ | exact .inr ⟨_, _, _, _, rfl, h⟩ | exact not_bad h
theorem rTk_ok {g te tb : Nat} {args : Array Operand} {ts : Array TypeId} {x : Operand} {a : Acc} (hx : args.toList = [x]) (ha : AccOk n x a) (hg : tkT P g = some te) (hgb : byteT P te = some tb) (hk : okOp ⟨dst, .call ⟨.value (.func g), args, ts⟩, ty, pos, after, guard⟩ = true) :
    LOk P B w0 n ⟨dst, .call ⟨.value (.func g), args, ts⟩, ty, pos, after, guard⟩ (rTk te tb a) := by
  intro rec L F k t A hR h1 h2 hM h
  obtain ⟨b, o, h3, h4⟩ := ptrK_true h
  obtain ⟨h5, h6⟩ := ifK_true h4
  obtain rfl := beq_eq h5
  obtain ⟨hb, rows, m, esz, e, fam, ro, h7, h8⟩ := blkK_true h6
  obtain ⟨q1, k1⟩ := ifK_true h8
  obtain ⟨q2, k2⟩ := ifK_true k1
  obtain ⟨q3, k3⟩ := ifK_true k2
  obtain ⟨q4, k4⟩ := ifK_true k3
  obtain ⟨q5, k5⟩ := ifK_true k4
  clear h8 k1 k2 k3 k4 h6 h4 h
  obtain rfl := beq_eq q1
  obtain rfl := beq_eq q2
  obtain rfl : te = e := (beq_eq q3).symm
  obtain rfl := not_true q4
  obtain rfl := not_true q5
  obtain ⟨c, hc⟩ := hM.at hb h7
  have h11 : 1 < 1 * 2 := by decide
  rw [wCell_get h11 hc.h0 hc.h1 hc.h2] at k5
  have e1 : ev t x = .pointer (some ⟨b, 0, none⟩) := (ha L t h1 h2).symm.trans (by rw [h3]; rfl)
  rw [opA_call hk (show ev t (.func g) = .func (.func g) #[] #[] from rfl) (bldT_has hg)]
  dsimp only
  rw [evs_one _ hx, e1]
  have hcell := hc.cell 1 h11
  generalize hu : cellAt rows 2 1 = u at k5 hcell
  intro Γ M ρ w args' hs hargs
  obtain ⟨i, hi, rfl⟩ := args_ptr hargs
  have hA : A.cell? ⟨b, 1, none⟩ = some u.up := by
    unfold AW.cell?
    rw [hc.get]
    exact hcell
  obtain ⟨v', g1, g2⟩ := hs.cell hi hA
  rcases nilK_slc k5 with ⟨m, cp, rfl, r1⟩ | ⟨d, o, m, cp, rfl, r1⟩
  · obtain ⟨r2, r3⟩ := ifK_true r1
    obtain ⟨r4, r5⟩ := ifK_true r3
    obtain rfl := beq_eq r2
    obtain rfl := beq_eq r4
    have g3 : v' = .slice none 0 0 := by cases g2; rfl
    subst g3
    refine (hR.1.textNil hg i.g w g1).mono ?_
    rintro e w' ⟨rfl, rfl⟩
    refine ⟨ρ, .string (bytesOf 0 0), .string (bytesOf 0 0), A, rfl, ⟨.val (.str 0 0), F, rfl, hM, r5⟩, Ren.le_refl _, ?_, .string _⟩
    exact SR.drew hs
  · obtain ⟨r2, r3⟩ := ifK_true r1
    obtain ⟨r4, r5⟩ := ifK_true r3
    obtain ⟨r6, r7⟩ := ifK_true r5
    obtain rfl := beq_eq r4
    have hm0 : 0 < m := blt_lt r2
    have hmc : m ≤ cp := Nat.le_of_ble_eq_true r6
    obtain ⟨hd, rows2, n2, esz2, e2, fam2, ro2, r8, r9⟩ := blkK_true r7
    obtain ⟨s1, t1⟩ := ifK_true r9
    obtain ⟨s2, t2⟩ := ifK_true t1
    obtain ⟨s3, t3⟩ := ifK_true t2
    obtain ⟨s4, t4⟩ := ifK_true t3
    clear r1 r3 r5 r7 r9 t1 t2 t3
    obtain rfl := beq_eq s1
    obtain rfl : tb = e2 := (beq_eq s2).symm
    obtain rfl := not_true s3
    obtain ⟨cd, hcd⟩ := hM.at hd r8
    obtain ⟨l, l1, l2, l3⟩ := bytesK_true hcd.h2 m 0 0 0 (by rw [Nat.zero_add]; exact Nat.le_of_ble_eq_true s4) (by decide) t4
    rw [Nat.pow_zero, Nat.mul_one, Nat.zero_add] at l3
    have l4 : ∀ x ∈ l, x < 256 := fun x hx => by
      obtain ⟨p, hp⟩ := List.getElem?_of_mem hx
      exact (l2 p x hp).2
    have hbytes := bytesOf_foldr l l4
    rw [l1] at hbytes
    generalize hz : l.foldr (fun x r => x + 256 * r) 0 = z at l3 hbytes
    have h13 := putF_true hd l3
    have hcap : ∃ (j : Info) (c' : Nat), ρ d = some j ∧ v' = .slice (some ⟨j.g, 0, none⟩) m c' ∧ m ≤ c' := by
      cases g2 with
      | slice h10 h12 =>
        refine ⟨_, _, h10, rfl, ?_⟩
        rcases h12 with ⟨_, h14⟩ | ⟨_, h14, _⟩ <;> omega
      | edge => exact absurd hm0 (Nat.lt_irrefl 0)
    obtain ⟨j, c', hj, rfl, hmc'⟩ := hcap
    obtain ⟨hBj, o', hgd, hor⟩ := hs.blk d _ j hcd.get hj
    have hcur : ∃ cur, o' = .cells cur tb (0, 0) ∧ j.ro = false ∧ ∀ (p : Nat) (v : Value), cd[p]? = some v → ∃ v', cur[p]? = some v' ∧ VR ρ v v' := by
      cases hor with
      | exact p1 p2 p3 p4 => subst p4; exact ⟨_, rfl, p1, fun p v hv => p3.at hv⟩
      | loose p1 p2 p3 p4 p5 p6 p7 => obtain rfl := p6 rfl; exact ⟨_, rfl, p1, p5⟩
    obtain ⟨cur, rfl, hro, hrel⟩ := hcur
    have hlen : (l.map UInt8.ofNat).length = m := by rw [List.length_map, l1]
    have hcells : ∀ (p : Nat) (x : UInt8), (l.map UInt8.ofNat)[p]? = some x → cur[p]? = some (.int .u8 x.toNat) := by
      intro p x hp
      rw [List.getElem?_map] at hp
      cases hy : l[p]? with
      | none => rw [hy] at hp; cases hp
      | some y =>
        rw [hy] at hp
        injection hp with hp; subst hp
        obtain ⟨q1, q2⟩ := l2 p y hy
        rw [Nat.zero_add] at q1
        have hpl : p < m := by rw [← l1]; exact (List.getElem?_eq_some_iff.1 hy).1
        have hpc := hcd.cell p (by have := Nat.le_of_ble_eq_true s4; omega)
        rw [q1] at hpc
        obtain ⟨v', q3, q4⟩ := hrel p _ hpc
        rw [q3]
        cases q4
        have : (UInt8.ofNat y).toNat = y := by simp; omega
        rw [this]
        rfl
    have hm1 : m ≤ 1000000 := by have := Nat.le_of_ble_eq_true s4; have := hcd.h2; omega
    refine (hR.1.text hg hgb i.g j.g c' w cur (l.map UInt8.ofNat) (by rw [hlen]; exact g1) hgd (by intro e; rw [e] at hlen; simp at hlen; omega) (by rw [hlen]; exact hmc') (by rw [hlen]; exact hm1) hcells).mono ?_
    rintro e w' ⟨rfl, rfl⟩
    rw [hlen]
    have hfr : (w.drew.freeze ⟨j.g, 0, none⟩ m).heap.size = w.heap.size ∧ (w.drew.freeze ⟨j.g, 0, none⟩ m).os = w.os ∧ (w.drew.freeze ⟨j.g, 0, none⟩ m).tape = w.tape ∧ (w.drew.freeze ⟨j.g, 0, none⟩ m).output = w.output ∧ ∀ k, k ≠ j.g → (w.drew.freeze ⟨j.g, 0, none⟩ m).heap[k]? = w.heap[k]? := by
      unfold World.freeze
      rw [if_neg (by omega)]
      refine ⟨(Array.size_modify ..).trans rfl, rfl, rfl, rfl, fun k hk => ?_⟩
      show (Array.modify w.heap j.g _)[k]? = _
      rw [Array.getElem?_modify, if_neg (Ne.symm hk)]
    refine ⟨ρ, .string (bytesOf m z), .string ⟨(l.map UInt8.ofNat).toArray⟩, A.put d none, rfl, ⟨.val (.str m z), _, rfl, hM.putA hd (.no _), h13⟩, Ren.le_refl _, SR.lost hs hcd.get hj hro hfr.2.1 hfr.2.2.1 hfr.2.2.2.1 hfr.1 hfr.2.2.2.2, ?_⟩
    rw [hbytes]
    exact .string _
theorem bldD_ok {g : FuncId} {args : Array Operand} {ts : Array TypeId} {d : OpD} (h : bldD gl P n g args.toList = some d) (hk : okOp ⟨dst, .call ⟨.value (.func g), args, ts⟩, ty, pos, after, guard⟩ = true) :
    LOk P B w0 n ⟨dst, .call ⟨.value (.func g), args, ts⟩, ty, pos, after, guard⟩ d.get := by
  unfold bldD at h
  split at h
  rotate_left
  · cases h
  rename_i l x hx
  cases hax : accOf gl n x with
  | none => rw [hax] at h; cases h
  | some a =>
    rw [hax] at h
    dsimp only at h
    cases hck : ckT P g with
    | some te =>
      rw [hck] at h
      injection h with h; subst h
      exact rCk_ok hx (accOf_ok hax) hck hk
    | none =>
      rw [hck] at h
      dsimp only at h
      cases htk : tkT P g with
      | none => rw [htk] at h; cases h
      | some te =>
        rw [htk] at h
        dsimp only at h
        cases hbt : byteT P te with
        | none => rw [hbt] at h; cases h
        | some tb =>
          rw [hbt] at h
          injection h with h; subst h
          exact rTk_ok hx (accOf_ok hax) htk hbt hk
theorem byteR_true : ∀ (m i z : Nat) (r : Rows) {k : Rows → R}, i + m ≤ 512 → byteR m i z r k = true →
    ∃ r', k r' = true ∧ (∀ j, j < i → cellAt r' 1 j = cellAt r 1 j) ∧ ∀ j, j < m → cellAt r' 1 (i + j) = .int .u8 (Int.ofNat ((z >>> (8 * j)) % 256))
  | 0, i, z, r, k, _, h => ⟨r, h, fun _ _ => rfl, fun j hj => absurd hj (Nat.not_lt_zero j)⟩
  | m + 1, i, z, r, k, hm, h => by
    have h : (wCell i 1).put (.int .u8 (Int.ofNat (Nat.mod z 256))) r (fun r => byteR m (i + 1) (Nat.div z 256) r k) = true := h
    have h1 : i < 512 * 1 := by omega
    rw [wCell_put (n := 512) h1 (by decide) (by decide) (Nat.le_refl _)] at h
    obtain ⟨r', g1, g2, g3⟩ := byteR_true m (i + 1) (Nat.div z 256) _ (by omega) h
    refine ⟨r', g1, fun j hj => ?_, fun j hj => ?_⟩
    · rw [g2 j (by omega), cell_set (n := 512) h1 (by decide) (by decide) (Nat.le_refl _) _ _ (by omega), if_neg (by omega)]
    · cases j with
      | zero =>
        rw [Nat.add_zero, g2 i (by omega), cell_set (n := 512) h1 (by decide) (by decide) (Nat.le_refl _) _ _ (by omega), if_pos rfl, Nat.mul_zero, Nat.shiftRight_zero]
        rfl
      | succ j =>
        have h2 := g3 j (by omega)
        rw [show i + (j + 1) = i + 1 + j by omega, h2, show 8 * (j + 1) = 8 + 8 * j by omega, Nat.shiftRight_add, Nat.shiftRight_eq_div_pow z 8]
        rfl
theorem rBytes_ok {srcT dstT e : TypeId} {x : Operand} {a : Acc} {i : TypeInfo} (hs : P.underlying srcT = some .string) (hd : P.underlying dstT = some (.slice e)) (he : P.underlying e = some (.int .u8)) (hi : P.info? e = some i) (h1 : Nat.beq i.size 1 = true) (ha : AccOk n x a)
    (hk : okOp ⟨dst, .convert srcT dstT x, ty, pos, after, guard⟩ = true) : LOk P B w0 n ⟨dst, .convert srcT dstT x, ty, pos, after, guard⟩ (rBytes e a) := by
  intro rec L F k t A hR h1' h2 hM h
  obtain ⟨m, z, h3, h4⟩ := strK_true h
  obtain ⟨h5, h6⟩ := ifK_true h4
  have h5 := Nat.le_of_ble_eq_true h5
  obtain ⟨r', g1, _, g3⟩ := byteR_true m 0 z rows0 (by omega) h6
  obtain ⟨g4, g5⟩ := newF_true g1
  have e1 : ev t x = .string (bytesOf m z) := (ha L t h1' h2).symm.trans (by rw [h3]; rfl)
  have hsz : (bytesOf m z).size = m := by simp [bytesOf, ByteArray.size]
  have hsz2 : (bytesOf m z).data.size = m := hsz
  have hop : opA P (ev t) ⟨dst, .convert srcT dstT x, ty, pos, after, guard⟩ A = some (.val (.slice (some ⟨A.next, 0, none⟩) m m), A.add ⟨.cells ((bytesOf m z).data.map fun b => .int .u8 b.toNat) e (0, 0), true, true⟩) := by
    unfold opA
    rw [hk, cond_true]
    dsimp only
    have hc : convA P srcT dstT (ev t x) A = some (.slice (some ⟨A.next, 0, none⟩) m m, A.add ⟨.cells ((bytesOf m z).data.map fun b => .int .u8 b.toNat) e (0, 0), true, true⟩) := by
      unfold convA
      rw [hs, hd]
      dsimp only
      rw [e1, he, hi]
      dsimp only
      rw [h1, hM.room g4, hsz]
      rfl
    rw [hc]
    rfl
  rw [hop]
  refine ⟨.val (.slc F.next 0 m m), _, ?_, hM.add g4 (.blk (by decide) (by decide) h5 ?_ fun j hj => ?_), g5⟩
  · rw [hM.next]; rfl
  · rw [Array.size_map, hsz2, Nat.mul_one]
  · have hj' : j < m := by omega
    have := g3 j hj'
    rw [Nat.zero_add] at this
    rw [this, Array.getElem?_map, Array.getElem?_eq_getElem (by omega)]
    have hb : (bytesOf m z).data[j]'(by omega) = UInt8.ofNat (Nat.shiftRight z (8 * j)) := by
      simp [bytesOf]
    rw [hb]
    show some (Value.int .u8 ((UInt8.ofNat (Nat.shiftRight z (8 * j))).toNat : Int)) = some (.int .u8 (Int.ofNat ((z >>> (8 * j)) % 256)))
    have h256 : (UInt8.ofNat (Nat.shiftRight z (8 * j))).toNat = (z >>> (8 * j)) % 256 := by
      simp
    rw [h256]
    rfl
theorem rAppStr_ok {s u e : TypeId} {x y : Operand} {a a' : Acc} {args : Array Operand} {ts : Array TypeId} {it : TypeInfo} {z : Value} (hargs : args.toList = [x, y]) (hts : ts.toList = [s, u]) (hsu : Nat.beq s u = false) (hu : P.underlying s = some (.slice e)) (hus : P.underlying u = some .string) (hi : P.info? e = some it) (hz : it.zero = some z) (hzs : z.cells.size = it.size) (h11 : Nat.beq it.size 1 = true)
    (ha : AccOk n x a) (hb : AccOk n y a') (hk : okOp ⟨dst, .call ⟨.builtin .append, args, ts⟩, ty, pos, after, guard⟩ = true) : LOk P B w0 n ⟨dst, .call ⟨.builtin .append, args, ts⟩, ty, pos, after, guard⟩ (rAppStr e it.bytes a a') := by
  have hs1 : it.size = 1 := beq_eq h11
  intro rec L F k t A hR h1 h2 hM h
  have hopA : opA P (ev t) ⟨dst, .call ⟨.builtin .append, args, ts⟩, ty, pos, after, guard⟩ A = valA (appendA P ts (ev t x) (ev t y) A) := by
    unfold opA
    rw [hk, cond_true]
    dsimp only
    rw [hargs]
  have goal : ∀ {v A'}, appendA P ts (ev t x) (ev t y) A = some (v, A') → Post k v A' → (match opA P (ev t) ⟨dst, .call ⟨.builtin .append, args, ts⟩, ty, pos, after, guard⟩ A with
      | some (.val v, A') => Post k v A'
      | some (.skip, A') => Post k undef A'
      | some (.enter f args, A') => CallS P B w0 f args A' (Post k)
      | some (.round b tmps a c, A') => RoundW P B w0 b tmps a c A' (Post k)
      | none => NextK (ev t) ⟨dst, .call ⟨.builtin .append, args, ts⟩, ty, pos, after, guard⟩ A (Post k)) := by
    intro v A' he hp
    rw [hopA, he]
    exact hp
  obtain ⟨m, zz, h3, h4⟩ := strK_true h
  have e2 : ev t y = .string (bytesOf m zz) := (hb L t h1 h2).symm.trans (by rw [h3]; rfl)
  have hsz : (bytesOf m zz).size = m := by simp [bytesOf, ByteArray.size]
  have happ : ∀ {sb m' c}, ev t x = .slice sb m' c → appendA P ts (ev t x) (ev t y) A = (bif Nat.beq m 0 then (bif Nat.ble m' c then some (Value.slice sb m' c, A) else none) else
          bif Nat.beq it.size 1 && Nat.beq z.cells.size it.size && Nat.ble ((m' + m) * it.bytes) 1099511627776 && Nat.ble (m' + m) 1099511627776 then appendB e it (.slice sb m' c) m (Lib.strCells (bytesOf m zz)) A else none) := by
    intro sb m' c e1
    unfold appendA
    rw [hts]
    dsimp only
    rw [hsu, cond_false, e1, e2, hu, hus]
    dsimp only
    rw [hi]
    dsimp only
    rw [hz]
    dsimp only
    rw [hsz]
  cases hq : Nat.beq m 0 with
  | true =>
    rw [hq] at h4
    obtain ⟨sb, m', c, g1, g2, g3⟩ := keepS_true (show keepS (a L) F k = true from h4)
    have e1 : ev t x = .slice sb m' c := (ha L t h1 h2).symm.trans g1
    exact goal (by rw [happ e1, hq, g2]; rfl) ⟨_, F, g1, hM, g3⟩
  | false =>
    rw [hq] at h4
    obtain ⟨h5, h6⟩ := ifK_true (show ifK (Nat.ble m 512) _ bad = true from h4)
    have h5 := Nat.le_of_ble_eq_true h5
    obtain ⟨r', g1, _, g3⟩ := byteR_true m 0 zz rows0 (by omega) h6
    have hcells : Lib.strCells (bytesOf m zz) = cellsL r' 1 0 (m * 1) := by
      apply List.ext_getElem?
      intro j
      rw [cellsL_get, Nat.mul_one]
      by_cases hj : j < m
      · have := g3 j hj
        rw [Nat.zero_add] at this
        rw [if_pos hj, Nat.zero_add, this]
        have hb : (bytesOf m zz).data.toList[j]? = some (UInt8.ofNat (Nat.shiftRight zz (8 * j))) := by
          simp [bytesOf, List.getElem?_range hj]
        rw [Lib.strCells, List.getElem?_map, hb]
        show some (Value.int .u8 ((UInt8.ofNat (Nat.shiftRight zz (8 * j))).toNat : Int)) = some (.int .u8 (Int.ofNat ((zz >>> (8 * j)) % 256)))
        have h256 : (UInt8.ofNat (Nat.shiftRight zz (8 * j))).toNat = (zz >>> (8 * j)) % 256 := by
          simp
        rw [h256]
        rfl
      · rw [if_neg hj]
        exact List.getElem?_eq_none (by rw [Lib.strCells_length, hsz]; omega)
    have g1' : appT e it.size it.bytes m 0 r' (a L) F k = true := by rw [hs1]; exact g1
    refine appT_ok (e := e) (X := appendA P ts (ev t x) (ev t y) A) (z := z) (o2 := 0) (n2 := m) hzs (by omega) (by omega) ha h1 h2 hM h5 (by omega) (Nat.zero_mul _) (fun {sb m' c} e1 hcond => ?_) goal g1'
    have hcond' : (Nat.beq it.size 1 && Nat.beq z.cells.size it.size && Nat.ble ((m' + m) * it.bytes) 1099511627776 && Nat.ble (m' + m) 1099511627776) = true := by
      simp only [Bool.and_eq_true] at hcond ⊢
      exact ⟨⟨⟨h11, hcond.1.1.1⟩, hcond.1.2⟩, hcond.2⟩
    rw [happ e1, hq, cond_false, hcond', cond_true, hcells, hs1]
theorem rClone_ok {g : FuncId} {args : Array Operand} {ts : Array TypeId} {x : Operand} {a : Acc} (hx : args.toList = [x]) (ha : AccOk n x a) (hg : cloneT P g = true) (hk : okOp ⟨dst, .call ⟨.value (.func g), args, ts⟩, ty, pos, after, guard⟩ = true) :
    LOk P B w0 n ⟨dst, .call ⟨.value (.func g), args, ts⟩, ty, pos, after, guard⟩ (rClone a) := by
  intro rec L F k t A hR h1 h2 hM h
  obtain ⟨v, h3, h4⟩ := valK_true h
  cases v with
  | val u =>
    have h4 : ifM u (fun tt b => mapK b F fun es c => newF (.map es c) F fun b F => num tt fun tt => k (.val (.val (.iface tt (.map (some b))))) F) = true := h4
    unfold ifM at h4
    split at h4
    rotate_left
    · exact not_bad h4
    rename_i tt b _
    obtain ⟨hb, es, c, h5, h6⟩ := mapK_true h4
    obtain ⟨h7, h8⟩ := newF_true h6
    obtain ⟨cs, h9, h10⟩ := hM.map hb h5
    have e1 : ev t x = .iface tt (.map (some b)) := (ha L t h1 h2).symm.trans (by rw [h3]; rfl)
    unfold cloneT at hg
    cases hf : P.funcs[g]? with
    | none => rw [hf] at hg; cases hg
    | some fn =>
      rw [hf] at hg
      have hg : isClone fn = true := hg
      have hbody : fn.body.isSome = false := by
        have := (clone_find hg).2.1
        cases hq : fn.body with
        | none => rfl
        | some b => rw [hq] at this; cases this
      have hop : opA P (ev t) ⟨dst, .call ⟨.value (.func g), args, ts⟩, ty, pos, after, guard⟩ A = some (.val (.iface tt (.map (some A.next))), A.add ⟨.map cs c, false, false⟩) := by
        unfold opA
        rw [hk, cond_true]
        dsimp only
        rw [show ev t (.func g) = .func (.func g) #[] #[] from rfl]
        dsimp only
        rw [hf]
        dsimp only
        rw [hbody, hg, cond_false, cond_true, evs_one _ hx, e1]
        unfold cloneA
        dsimp only
        rw [h9]
        dsimp only
        rw [hM.room h7]
        rfl
      rw [hop]
      refine ⟨.val (.val (.iface tt (.map (some F.next)))), _, ?_, hM.add h7 (.map h10), h8⟩
      rw [hM.next]; rfl
  | _ => exact not_bad h4
theorem cloneD_ok {g : FuncId} {args : Array Operand} {ts : Array TypeId} {d : OpD} (h : cloneD gl P n g args.toList = some d) (hk : okOp ⟨dst, .call ⟨.value (.func g), args, ts⟩, ty, pos, after, guard⟩ = true) :
    LOk P B w0 n ⟨dst, .call ⟨.value (.func g), args, ts⟩, ty, pos, after, guard⟩ d.get := by
  unfold cloneD at h
  split at h
  rotate_left
  · cases h
  rename_i l x hx
  cases hg : cloneT P g with
  | false => rw [hg] at h; cases h
  | true =>
    rw [hg, cond_true] at h
    cases hax : accOf gl n x with
    | none => rw [hax] at h; cases h
    | some a =>
      rw [hax] at h
      injection h with h; subst h
      exact rClone_ok hx (accOf_ok hax) hg hk
end
end
end Go.Proofs.YtnneooidkbhbeaaGreatDoor.Fast
