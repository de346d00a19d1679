/- A fast evaluator, part T: maps; made slices. Of no program. -/
import Derived.Test.YtnneooidkbhbeaaGreatDoorEvK
set_option linter.unusedVariables false
set_option linter.unusedSimpArgs false
namespace Go.Proofs.YtnneooidkbhbeaaGreatDoor.Fast
open Go Go.RowKit Go.Proofs.YtnneooidkbhbeaaGreatDoor.Sim
noncomputable section
section
variable {P : Program} {B : Nat} {w0 : Base} {n : Nat} {gl : Nat → Bool} {dst : Option Tmp} {ty : TypeId} {pos : String} {after : Array Edge} {guard : Option (Nat × Bool)}
def upE (e : ME) : MapEntry := ⟨e.key.up, e.val.up, e.born⟩
theorem mapK_true {b : Nat} {F : FM} {k : List ME → Nat → R} (h : mapK b F k = true) : b < 32768 ∧ ∃ es c, Lh.get b F.heap = .map es c ∧ k es c = true := by
  obtain ⟨h1, h2⟩ := ifK_true h
  have hb := blt_lt h1
  refine ⟨hb, ?_⟩
  rw [w32768_get hb] at h2
  generalize (L32768 FO).get b F.heap = x at h2
  cases x with
  | no => exact not_bad h2
  | map es c => exact ⟨es, c, rfl, h2⟩
  | iter => exact not_bad h2
  | siter => exact not_bad h2
  | loop => exact not_bad h2
  | blk => exact not_bad h2
theorem MR.map {F : FM} {A : AW} (h : MR F A) {b : Nat} (hb : b < 32768) {es : List ME} {c : Nat} (hg : Lh.get b F.heap = .map es c) : ∃ cs : Array MapEntry, A.heap.get b = some ⟨.map cs c, false, false⟩ ∧ cs.toList = es.map upE := by
  have := h.blk b hb
  rw [hg] at this
  generalize hy : A.heap.get b = y at this
  cases this with
  | map hc => exact ⟨_, rfl, hc⟩
theorem mpK_true {x : SV} {k0 : R} {k : Nat → R} (h : mpK x k0 k = true) : (x.up = .map none ∧ k0 = true) ∨ ∃ b, x = .val (.map b) ∧ k b = true := by
  obtain ⟨v, rfl, h⟩ := valK_true h
  cases v with
  | map b => exact .inr ⟨b, rfl, h⟩
  | val v =>
    have h' : nilM v k0 = true := h
    unfold nilM at h'
    split at h'
    · exact .inl ⟨rfl, h'⟩
    · exact not_bad h'
  | _ => exact not_bad h
def kd (s : Option IntKind) : TypeDesc := match s with
  | none => .string
  | some k => .int k
theorem keyB_spec {kt : TypeId} {s : Option IntKind} (h : keyB P kt = some s) : P.underlying kt = some (kd s) := by
  unfold keyB at h
  split at h
  · rename_i hu; injection h with h; subst h; exact hu
  · rename_i k hu; injection h with h; subst h; exact hu
  · cases h
theorem kindK_true {s : Option IntKind} {a : FV} {k : R} (h : kindK s a k = true) : keyT (kd s) a.up = true ∧ k = true := by
  cases s with
  | none =>
    have h' : strV a (fun _ _ => k) = true := h
    cases a <;> first | exact not_bad h' | exact ⟨rfl, h'⟩
  | some i =>
    have h' : intV a (fun j _ => ifK (Nat.beq (kix j) (kix i)) k bad) = true := h
    cases a with
    | int j z =>
      obtain ⟨h1, h2⟩ := ifK_true (show ifK (Nat.beq (kix j) (kix i)) k bad = true from h')
      obtain rfl := kix_inj h1
      exact ⟨decide_eq_true rfl, h2⟩
    | _ => exact not_bad h'
theorem bytes_same (a b : ByteArray) : (a == b) = (a.toList == b.toList) := by
  rw [Bool.eq_iff_iff, MapKept.bytes_beq, beq_iff_eq]
  constructor
  · intro h; rw [h]
  · intro h
    rw [ByteArray.toList_eq, ByteArray.toList_eq] at h
    exact ByteArray.ext (Array.toList_inj.1 h)
theorem keyK_true {s : Option IntKind} {a b : FV} {y m : R} (hk : keyT (kd s) a.up = true) (h : keyK a b y m = true) : (Instr.sameNow (kd s) a.up b.up = some true ∧ y = true) ∨ (Instr.sameNow (kd s) a.up b.up = some false ∧ m = true) := by
  cases a with
  | int i z =>
    cases s with
    | none => cases hk
    | some kk =>
      have h' : intV b (fun j w => ifK (Nat.beq (kix i) (kix j)) (ifK (intEq z w) y m) bad) = true := h
      cases b with
      | int j w =>
        obtain ⟨h1, h2⟩ := ifK_true (show ifK (Nat.beq (kix i) (kix j)) (ifK (intEq z w) y m) bad = true from h')
        obtain rfl := kix_inj h1
        have e : Instr.sameNow (kd (some kk)) (FV.up (.int i z)) (FV.up (.int i w)) = some (z == w) := by
          show (if i = i then some (z == w) else none) = _
          rw [if_pos rfl]
        rw [e]
        have e2 : intEq z w = (z == w) := by rw [intEq_eq]; rfl
        rw [e2] at h2
        cases hq : (z == w) with
        | true => rw [hq] at h2; exact .inl ⟨rfl, h2⟩
        | false => rw [hq] at h2; exact .inr ⟨rfl, h2⟩
      | _ => exact not_bad h'
  | str l z =>
    cases s with
    | some kk => cases hk
    | none =>
      have h' : strV b (fun q w => ifK (strEq l z q w) y m) = true := h
      cases b with
      | str q w =>
        have h2 : ifK (strEq l z q w) y m = true := h'
        have e : Instr.sameNow (kd none) (FV.up (.str l z)) (FV.up (.str q w)) = some (bytesOf l z == bytesOf q w) := rfl
        rw [e, bytes_same, ← strEq_eq]
        cases hq : strEq l z q w with
        | true => rw [hq] at h2; exact .inl ⟨rfl, h2⟩
        | false => rw [hq] at h2; exact .inr ⟨rfl, h2⟩
      | _ => exact not_bad h'
  | _ => exact not_bad h
theorem findF_true {s : Option IntKind} {key : FV} (hk : keyT (kd s) key.up = true) {kf : Nat → SV → R} {kn : R} : ∀ (l : List ME) (i : Nat), findF l i key kf kn = true →
    (Instr.findNow (kd s) key.up (l.map upE) i = some none ∧ kn = true) ∨ ∃ j e, Instr.findNow (kd s) key.up (l.map upE) i = some (some (i + j, e.val.up)) ∧ l[j]? = some e ∧ e.key.up = key.up ∧ kf (i + j) e.val = true
  | [], i, h => .inl ⟨rfl, h⟩
  | e :: l, i, h => by
    have h' : keyK key e.key (kf i e.val) (findF l (i + 1) key kf kn) = true := h
    simp only [List.map_cons, Instr.findNow]
    rcases keyK_true hk h' with ⟨h1, h2⟩ | ⟨h1, h2⟩
    · refine .inr ⟨0, e, ?_, rfl, ?_, h2⟩
      · show (match Instr.sameNow (kd s) key.up e.key.up with | some true => _ | some false => _ | none => _) = _
        rw [h1]; rfl
      · exact sameNow_true h1
    · rcases findF_true hk l (i + 1) h2 with ⟨g1, g2⟩ | ⟨j, e2, g1, g2, g3, g4⟩
      · refine .inl ⟨?_, g2⟩
        show (match Instr.sameNow (kd s) key.up e.key.up with | some true => _ | some false => _ | none => _) = _
        rw [h1]; exact g1
      · refine .inr ⟨j + 1, e2, ?_, by simpa using g2, g3, by rw [show i + (j + 1) = i + 1 + j by omega]; exact g4⟩
        show (match Instr.sameNow (kd s) key.up e.key.up with | some true => _ | some false => _ | none => _) = _
        rw [h1, show i + (j + 1) = i + 1 + j by omega]; exact g1
theorem snocK_true {x : ME} : ∀ (l : List ME) {k : List ME → R}, snocK x l k = true → k (l ++ [x]) = true
  | [], k, h => h
  | e :: l, k, h => snocK_true l (k := fun r => k (⟨e.key, e.val, e.born⟩ :: r)) h
theorem putE_true {v : SV} : ∀ (l : List ME) (i : Nat) {k : List ME → R}, putE v l i k = true → ∃ l', k l' = true ∧ l'.length = l.length ∧ ∀ (p : Nat), l'[p]? = if p = i then (l[p]?).map (fun e => ⟨e.key, v, e.born⟩) else l[p]?
  | [], i, k, h => not_bad h
  | e :: l, 0, k, h => ⟨⟨e.key, v, e.born⟩ :: l, h, rfl, fun p => by cases p with | zero => rfl | succ p => rw [if_neg (by omega)]; rfl⟩
  | e :: l, i + 1, k, h => by
    obtain ⟨l', h1, h2, h3⟩ := putE_true l i (k := fun r => k (⟨e.key, e.val, e.born⟩ :: r)) h
    refine ⟨_, h1, by simp [h2], fun p => ?_⟩
    cases p with
    | zero => rw [if_neg (by omega)]; rfl
    | succ p =>
      rw [List.getElem?_cons_succ, h3 p, List.getElem?_cons_succ]
      by_cases hp : p = i
      · rw [if_pos hp, if_pos (by omega)]
      · rw [if_neg hp, if_neg (by omega)]
theorem okS_true {ok : Bool} {v : SV} {b : Bool} {k : SV → R} (hv : ∀ r : SV, SV.tl (.cons v r) = v.up :: r.tl) (h : okS ok v b k = true) : ∃ s : SV, s.up = okV ok v.up b ∧ k s = true := by
  cases ok with
  | false => exact ⟨v, rfl, h⟩
  | true =>
    refine ⟨_, ?_, (show k (.cons v (.cons (.val (.bool b)) .nil)) = true from h)⟩
    show Value.tuple ⟨SV.tl (.cons v (.cons (.val (.bool b)) .nil))⟩ = _
    rw [hv]
    rfl
theorem hd1_true {x : SV} {k : SV → R} (h : hd1 x k = true) : k x = true ∧ ∀ r : SV, SV.tl (.cons x r) = x.up :: r.tl := by
  cases x with
  | val v => exact ⟨h, fun r => rfl⟩
  | row m f => exact ⟨h, fun r => rfl⟩
  | nil => exact not_bad h
  | cons a b => exact not_bad h
theorem rMakeMap_ok {mt : TypeId} (hk : okOp ⟨dst, .makeMap mt none, ty, pos, after, guard⟩ = true) : LOk P B w0 n ⟨dst, .makeMap mt none, ty, pos, after, guard⟩ rMakeMap := by
  intro rec L F k t A hR h1 h2 hM h
  obtain ⟨h3, h4⟩ := newF_true h
  have hr := hM.room h3
  have : opA P (ev t) ⟨dst, .makeMap mt none, ty, pos, after, guard⟩ A = some (.val (.map (some A.next)), A.add ⟨.map #[] 0, false, false⟩) := by
    unfold opA
    rw [hk, cond_true]
    show valA (makeMapA A) = _
    unfold makeMapA
    rw [hr]
    rfl
  rw [this]
  refine ⟨_, _, ?_, hM.add h3 (.map (es := []) (c := #[]) rfl), h4⟩
  rw [hM.next]
  rfl
theorem rMakeSlice_ok {s e : TypeId} {x y : Operand} {a b' : Acc} {z : List Value} {i : TypeInfo} (hu : P.underlying s = some (.slice e)) (hz : zeroB P e = some z) (hi : P.info? e = some i) (h64 : z.length ≤ 64) (ha : AccOk n x a) (hb : AccOk n y b') (hk : okOp ⟨dst, .makeSlice s x y, ty, pos, after, guard⟩ = true) :
    QOk P n ⟨dst, .makeSlice s x y, ty, pos, after, guard⟩ (rMakeSlice (rowOf z 0 row0) z.length i.bytes e a b') := by
  intro rec L F k t A h1 h2 hM h
  obtain ⟨it, v, hi', hv, hcz, hcs, hpos, hzl, hsz, hone⟩ := zeroB_spec hz
  rw [hi] at hi'; injection hi' with hi'; subst hi'
  have h0 : 0 < z.length := by omega
  obtain ⟨kl, zl, h3, h4⟩ := intK_true h
  obtain ⟨l, rfl, h5⟩ := natV_true h4
  obtain ⟨kc, zc, h6, h7⟩ := intK_true h5
  obtain ⟨c, rfl, h8⟩ := natV_true h7
  obtain ⟨h9, h10⟩ := ifK_true h8
  rw [Bool.and_eq_true, Bool.and_eq_true] at h9
  obtain ⟨⟨r1, r2⟩, r3⟩ := h9
  have r1' : l ≤ c := Nat.le_of_ble_eq_true r1
  have r2' : c ≤ 512 := Nat.le_of_ble_eq_true r2
  obtain ⟨h11, h12⟩ := newF_true h10
  have e1 : ev t x = .int kl (Int.ofNat l) := (ha L t h1 h2).symm.trans (by rw [h3]; rfl)
  have e2 : ev t y = .int kc (Int.ofNat c) := (hb L t h1 h2).symm.trans (by rw [h6]; rfl)
  have hr := hM.room h11
  have hop : ghostA P (ev t) ⟨dst, .makeSlice s x y, ty, pos, after, guard⟩ = some (madeCells v.cells (c * i.size), e, some (l, c)) := by
    unfold ghostA
    dsimp only
    rw [e1, e2]
    rw [hu]
    dsimp only
    rw [hi]
    dsimp only
    rw [hv]
    dsimp only
    have hq : (decide ((0 : Int) ≤ Int.ofNat l) && decide (Int.ofNat l ≤ Int.ofNat c) && Nat.ble ((Int.ofNat c).toNat * i.size) 16777216 && Nat.ble (i.bytes * (Int.ofNat c).toNat) 281474976710656 && Nat.ble (Int.ofNat c).toNat 4611686018427387904) = true := by
      rw [Bool.and_eq_true, Bool.and_eq_true, Bool.and_eq_true, Bool.and_eq_true]
      have q1 : c * i.size ≤ 512 * 64 := Nat.mul_le_mul r2' (by omega)
      exact ⟨⟨⟨⟨decide_eq_true (Int.natCast_nonneg l), decide_eq_true (by simp only [Int.ofNat_eq_natCast]; omega)⟩, Nat.ble_eq_true_of_le (by show c * i.size ≤ _; omega)⟩, r3⟩, Nat.ble_eq_true_of_le (by show c ≤ _; omega)⟩
    rw [hq]
    rfl
  rw [mk_ghost hk (fun _ => rfl) hop]
  refine ⟨hr, _, _, ?_, hM.add h11 (.blk (rows := r8 (r8 (r8 (rowOf z 0 row0)))) (n := c) (esz := z.length) h0 h64 r2' (by rw [size_madeCells, hzl]) fun j hj => ?_), h12⟩
  · rw [hM.next]
    rfl
  · rw [hzl] at hj
    have hm : j % z.length < z.length := Nat.mod_lt _ h0
    unfold cellAt
    have hd : j / z.length < c := Nat.div_lt_of_lt_mul (by rw [hzl, Nat.mul_comm]; exact hj)
    unfold madeCells
    rw [r8_at _ _ (by omega), ← rowOf_up h64 hone hm row0, Array.getElem?_map, Array.getElem?_range, if_pos hj, Option.map_some, ← hcz, Array.getElem?_toList]
    have e1 : v.cells.size = z.length := by rw [hcs, hzl]
    rw [hcz, e1, getElem!_pos v.cells _ (by omega), ← Array.getElem?_eq_getElem]
theorem opA_lookup {mt : TypeId} {x y : Operand} {ok : Bool} {t : Operand → Value} {A : AW} (hk : okOp ⟨dst, .lookup mt x y ok, ty, pos, after, guard⟩ = true) {v : Value} (h : lookupA P mt (t x) (t y) ok A = some v) : opA P t ⟨dst, .lookup mt x y ok, ty, pos, after, guard⟩ A = some (.val v, A) := by
  unfold opA
  rw [hk, cond_true]
  dsimp only
  rw [h]
theorem rLookup_ok {mt kt e : TypeId} {x y : Operand} {ok : Bool} {a b' : Acc} {s : Option IntKind} {ie : TypeInfo} {z : Value} {zero : SV} (hu : P.underlying mt = some (.map kt e)) (hs : keyB P kt = some s) (hi : P.info? e = some ie) (hz : ie.zero = some z) (hzero : zero.up = z) (ha : AccOk n x a) (hb : AccOk n y b') (hk : okOp ⟨dst, .lookup mt x y ok, ty, pos, after, guard⟩ = true) :
    LOk P B w0 n ⟨dst, .lookup mt x y ok, ty, pos, after, guard⟩ (rLookup s zero ok a b') := by
  intro rec L F k t A hR h1 h2 hM h
  obtain ⟨key, h3, h4⟩ := valK_true h
  obtain ⟨hkt, h5⟩ := kindK_true h4
  have e2 : ev t y = key.up := (hb L t h1 h2).symm.trans (by rw [h3]; rfl)
  have hd := keyB_spec hs
  have base : ∀ (X : Option Value), (match ev t x with
          | .map none => some (okV ok z false)
          | .map (some r) => match A.heap.get r with
            | some ⟨.map es _, _, _⟩ => match Instr.findNow (kd s) key.up es.toList 0 with
              | some (some (_, v)) => some (okV ok v true)
              | some none => some (okV ok z false)
              | none => none
            | _ => none
          | _ => none) = X → lookupA P mt (ev t x) (ev t y) ok A = X := by
    intro X hX
    unfold lookupA
    rw [hu]
    dsimp only
    rw [hd, hi]
    dsimp only
    rw [hz, e2]
    dsimp only
    rw [hkt, cond_true]
    exact hX
  have post : ∀ {v : Value}, lookupA P mt (ev t x) (ev t y) ok A = some v → (∃ sv : SV, sv.up = v ∧ k sv F = true) → (match opA P (ev t) ⟨dst, .lookup mt x y ok, ty, pos, after, guard⟩ A with
      | some (.val v, A') => Post k v A'
      | some (.skip, A') => Post k undef A'
      | some (.enter f args, A') => CallS P B w0 f args A' (Post k)
      | some (.round b tmps a c, A') => RoundW P B w0 b tmps a c A' (Post k)
      | none => NextK (ev t) ⟨dst, .lookup mt x y ok, ty, pos, after, guard⟩ A (Post k)) := by
    rintro v hv ⟨sv, g1, g2⟩
    rw [opA_lookup hk hv]
    exact ⟨sv, F, g1, hM, g2⟩
  rcases mpK_true h5 with ⟨h6, h7⟩ | ⟨b, h6, h7⟩
  · have e1 : ev t x = .map none := (ha L t h1 h2).symm.trans h6
    obtain ⟨h8, h9⟩ := hd1_true h7
    obtain ⟨sv, g1, g2⟩ := okS_true h9 h8
    exact post (base _ (by rw [e1])) ⟨sv, by rw [g1, hzero], g2⟩
  · have e1 : ev t x = .map (some b) := (ha L t h1 h2).symm.trans (by rw [h6]; rfl)
    obtain ⟨hb2, es, c, h8, h9⟩ := mapK_true h7
    obtain ⟨cs, q1, q2⟩ := hM.map hb2 h8
    rcases findF_true hkt es 0 h9 with ⟨g1, g2⟩ | ⟨j, e', g1, g2, g3, g4⟩
    · obtain ⟨h10, h11⟩ := hd1_true g2
      obtain ⟨sv, g5, g6⟩ := okS_true h11 h10
      refine post (base _ ?_) ⟨sv, by rw [g5, hzero], g6⟩
      rw [e1]
      dsimp only
      rw [q1]
      dsimp only
      rw [q2, g1]
    · obtain ⟨h10, h11⟩ := hd1_true g4
      obtain ⟨sv, g5, g6⟩ := okS_true h11 h10
      refine post (base _ ?_) ⟨sv, g5, g6⟩
      rw [e1]
      dsimp only
      rw [q1]
      dsimp only
      rw [q2, g1]
theorem opA_update {mt : TypeId} {x y z : Operand} {t : Operand → Value} {A A' : AW} {q : Bool} (hk : okOp ⟨dst, bif q then .insert mt x y z else .mapUpdate mt x y z, ty, pos, after, guard⟩ = true) (h : mapUpdateA P mt (t x) (t y) (t z) A = some A') : opA P t ⟨dst, bif q then .insert mt x y z else .mapUpdate mt x y z, ty, pos, after, guard⟩ A = some (.skip, A') := by
  cases q with
  | false =>
    unfold opA
    rw [hk, cond_true]
    dsimp only [cond_false]
    rw [h]
  | true =>
    unfold opA
    rw [hk, cond_true]
    dsimp only [cond_true]
    rw [h]
theorem rMapUpdate_ok {mt kt e : TypeId} {x y z : Operand} {q : Bool} {a b' c' : Acc} {s : Option IntKind} (hu : P.underlying mt = some (.map kt e)) (hs : keyB P kt = some s) (ha : AccOk n x a) (hb : AccOk n y b') (hc : AccOk n z c') (hk : okOp ⟨dst, bif q then .insert mt x y z else .mapUpdate mt x y z, ty, pos, after, guard⟩ = true) :
    LOk P B w0 n ⟨dst, bif q then .insert mt x y z else .mapUpdate mt x y z, ty, pos, after, guard⟩ (rMapUpdate s a b' c') := by
  intro rec L F k t A hR h1 h2 hM h
  obtain ⟨key, h3, h4⟩ := valK_true h
  obtain ⟨hkt, h5⟩ := kindK_true h4
  obtain ⟨h6, _⟩ := hd1_true h5
  have e2 : ev t y = key.up := (hb L t h1 h2).symm.trans (by rw [h3]; rfl)
  have e3 : ev t z = (c' L).up := (hc L t h1 h2).symm
  have hd := keyB_spec hs
  rcases mpK_true h6 with ⟨_, h7⟩ | ⟨b, h7, h8⟩
  · exact not_bad h7
  have e1 : ev t x = .map (some b) := (ha L t h1 h2).symm.trans (by rw [h7]; rfl)
  obtain ⟨hb2, es, c, h9, h10⟩ := mapK_true h8
  obtain ⟨cs, q1, q2⟩ := hM.map hb2 h9
  have base : ∀ (X : Option AW), (match Instr.findNow (kd s) key.up (es.map upE) 0 with
            | some (some (i, _)) => some (A.put b (some ⟨.map (cs.modify i fun e => { e with key := key.up, val := (c' L).up }) c, false, false⟩))
            | some none => some (A.put b (some ⟨.map (cs.push { key := key.up, val := (c' L).up, born := c }) (c + 1), false, false⟩))
            | none => none) = X → mapUpdateA P mt (ev t x) (ev t y) (ev t z) A = X := by
    intro X hX
    unfold mapUpdateA
    rw [hu]
    dsimp only
    rw [hd]
    dsimp only
    rw [e1, e2, e3]
    rw [hkt, cond_true]
    dsimp only
    rw [q1]
    dsimp only
    rw [q2]
    exact hX
  rcases findF_true hkt es 0 h10 with ⟨g1, g2⟩ | ⟨j, e', g1, g2, g3, g4⟩
  · have g5 := snocK_true _ g2
    have g6 := putF_true hb2 (show putF b _ F _ = true from g5)
    rw [opA_update hk (base _ (by rw [g1]))]
    refine ⟨u0, _, rfl, hM.putA hb2 (.map ?_), g6⟩
    rw [Array.toList_push, q2, List.map_append]
    rfl
  · obtain ⟨l', g5, g6, g7⟩ := putE_true _ _ g4
    have g8 := putF_true hb2 (show putF b _ F _ = true from g5)
    rw [opA_update hk (base _ (by rw [g1]))]
    refine ⟨u0, _, rfl, hM.putA hb2 (.map ?_), g8⟩
    apply List.ext_getElem?
    intro p
    rw [Array.getElem?_toList, Array.getElem?_modify, List.getElem?_map, g7 p, Nat.zero_add]
    have e4 : cs[p]? = (es[p]?).map upE := by rw [← Array.getElem?_toList, q2, List.getElem?_map]
    rw [e4]
    by_cases hp : p = j
    · subst hp
      rw [if_pos rfl, if_pos rfl, g2]
      simp only [Option.map_some, upE, g3]
    · rw [if_neg hp, if_neg (fun q => hp q.symm)]
      rfl
end
end
end Go.Proofs.YtnneooidkbhbeaaGreatDoor.Fast
