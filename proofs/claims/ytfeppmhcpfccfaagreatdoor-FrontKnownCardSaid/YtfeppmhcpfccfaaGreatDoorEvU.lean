/- A fast evaluator, part T: maps; made slices. Of no program. -/
import Derived.Test.YtfeppmhcpfccfaaGreatDoorEvK
import Derived.Laws.RangeString
set_option linter.unusedVariables false
set_option linter.unusedSimpArgs false
namespace Go.Proofs.YtfeppmhcpfccfaaGreatDoor.Fast
open Go Go.RowKit Go.Proofs.YtfeppmhcpfccfaaGreatDoor.Sim
noncomputable section
section
variable {P : Program} {B : Nat} {w0 : Base} {n : Nat} {gl : Nat → Bool} {dst : Option Tmp} {ty : TypeId} {pos : String} {after : Array Edge} {guard : Option (Nat × Bool)}
def upE (e : ME) : MapEntry := ⟨e.key.up, e.val.up, e.born⟩
theorem mapK_true {b : Nat} {F : FM} {k : List ME → Nat → R} (h : mapK b F k = true) : b < 262144 ∧ ∃ es c, Lh.get b F.heap = .map es c ∧ k es c = true := by
  obtain ⟨h1, h2⟩ := ifK_true h
  have hb := blt_lt h1
  refine ⟨hb, ?_⟩
  rw [w262144_get hb] at h2
  generalize (L262144 FO).get b F.heap = x at h2
  cases x with
  | no => exact not_bad h2
  | map es c => exact ⟨es, c, rfl, h2⟩
  | chan => exact not_bad h2
  | iter => exact not_bad h2
  | siter => exact not_bad h2
  | loop => exact not_bad h2
  | blk => exact not_bad h2
theorem MR.map {F : FM} {A : AW} (h : MR F A) {b : Nat} (hb : b < 262144) {es : List ME} {c : Nat} (hg : Lh.get b F.heap = .map es c) : ∃ cs : Array MapEntry, A.heap.get b = some ⟨.map cs c, false, false⟩ ∧ cs.toList = es.map upE := by
  have := h.blk b hb
  rw [hg] at this
  generalize hy : A.heap.get b = y at this
  cases this with
  | map hc => exact ⟨_, rfl, hc⟩
theorem mpK_true {x : SV} {k0 : R} {k : Nat → R} (h : mpK x k0 k = true) : (x.up = .map none ∧ k0 = true) ∨ ∃ b, x = .val (.map b) ∧ k b = true := by
  obtain ⟨v, rfl, h⟩ := valK_true h
  cases v with
  | map b => exact .inr ⟨b, rfl, h⟩
  | val v =>
    have h' : nilM v k0 = true := h
    unfold nilM at h'
    split at h'
    · exact .inl ⟨rfl, h'⟩
    · exact not_bad h'
  | _ => exact not_bad h
def kd (s : Option IntKind) : TypeDesc := match s with
  | none => .string
  | some k => .int k
theorem keyB_spec {kt : TypeId} {s : Option IntKind} (h : keyB P kt = some s) : P.underlying kt = some (kd s) := by
  unfold keyB at h
  split at h
  · rename_i hu; injection h with h; subst h; exact hu
  · rename_i k hu; injection h with h; subst h; exact hu
  · cases h
theorem kindK_true {s : Option IntKind} {a : FV} {k : R} (h : kindK s a k = true) : keyT (kd s) a.up = true ∧ k = true := by
  cases s with
  | none =>
    have h' : strV a (fun _ _ => k) = true := h
    cases a <;> first | exact not_bad h' | exact ⟨rfl, h'⟩
  | some i =>
    have h' : intV a (fun j _ => ifK (Nat.beq (kix j) (kix i)) k bad) = true := h
    cases a with
    | int j z =>
      obtain ⟨h1, h2⟩ := ifK_true (show ifK (Nat.beq (kix j) (kix i)) k bad = true from h')
      obtain rfl := kix_inj h1
      exact ⟨decide_eq_true rfl, h2⟩
    | _ => exact not_bad h'
theorem bytes_same (a b : ByteArray) : (a == b) = (a.toList == b.toList) := by
  rw [Bool.eq_iff_iff, MapKept.bytes_beq, beq_iff_eq]
  constructor
  · intro h; rw [h]
  · intro h
    rw [ByteArray.toList_eq, ByteArray.toList_eq] at h
    exact ByteArray.ext (Array.toList_inj.1 h)
theorem keyK_true {s : Option IntKind} {a b : FV} {y m : R} (hk : keyT (kd s) a.up = true) (h : keyK a b y m = true) : (Instr.sameNow (kd s) a.up b.up = some true ∧ y = true) ∨ (Instr.sameNow (kd s) a.up b.up = some false ∧ m = true) := by
  cases a with
  | int i z =>
    cases s with
    | none => cases hk
    | some kk =>
      have h' : intV b (fun j w => ifK (Nat.beq (kix i) (kix j)) (ifK (intEq z w) y m) bad) = true := h
      cases b with
      | int j w =>
        obtain ⟨h1, h2⟩ := ifK_true (show ifK (Nat.beq (kix i) (kix j)) (ifK (intEq z w) y m) bad = true from h')
        obtain rfl := kix_inj h1
        have e : Instr.sameNow (kd (some kk)) (FV.up (.int i z)) (FV.up (.int i w)) = some (z == w) := by
          show (if i = i then some (z == w) else none) = _
          rw [if_pos rfl]
        rw [e]
        have e2 : intEq z w = (z == w) := by rw [intEq_eq]; rfl
        rw [e2] at h2
        cases hq : (z == w) with
        | true => rw [hq] at h2; exact .inl ⟨rfl, h2⟩
        | false => rw [hq] at h2; exact .inr ⟨rfl, h2⟩
      | _ => exact not_bad h'
  | str l z =>
    cases s with
    | some kk => cases hk
    | none =>
      have h' : strV b (fun q w => ifK (strEq l z q w) y m) = true := h
      cases b with
      | str q w =>
        have h2 : ifK (strEq l z q w) y m = true := h'
        have e : Instr.sameNow (kd none) (FV.up (.str l z)) (FV.up (.str q w)) = some (bytesOf l z == bytesOf q w) := rfl
        rw [e, bytes_same, ← strEq_eq]
        cases hq : strEq l z q w with
        | true => rw [hq] at h2; exact .inl ⟨rfl, h2⟩
        | false => rw [hq] at h2; exact .inr ⟨rfl, h2⟩
      | _ => exact not_bad h'
  | _ => exact not_bad h
theorem findF_true {s : Option IntKind} {key : FV} (hk : keyT (kd s) key.up = true) {kf : Nat → SV → R} {kn : R} : ∀ (l : List ME) (i : Nat), findF l i key kf kn = true →
    (Instr.findNow (kd s) key.up (l.map upE) i = some none ∧ kn = true) ∨ ∃ j e, Instr.findNow (kd s) key.up (l.map upE) i = some (some (i + j, e.val.up)) ∧ l[j]? = some e ∧ e.key.up = key.up ∧ kf (i + j) e.val = true
  | [], i, h => .inl ⟨rfl, h⟩
  | e :: l, i, h => by
    have h' : keyK key e.key (kf i e.val) (findF l (i + 1) key kf kn) = true := h
    simp only [List.map_cons, Instr.findNow]
    rcases keyK_true hk h' with ⟨h1, h2⟩ | ⟨h1, h2⟩
    · refine .inr ⟨0, e, ?_, rfl, ?_, h2⟩
      · show (match Instr.sameNow (kd s) key.up e.key.up with | some true => _ | some false => _ | none => _) = _
        rw [h1]; rfl
      · exact sameNow_true h1
    · rcases findF_true hk l (i + 1) h2 with ⟨g1, g2⟩ | ⟨j, e2, g1, g2, g3, g4⟩
      · refine .inl ⟨?_, g2⟩
        show (match Instr.sameNow (kd s) key.up e.key.up with | some true => _ | some false => _ | none => _) = _
        rw [h1]; exact g1
      · refine .inr ⟨j + 1, e2, ?_, by simpa using g2, g3, by rw [show i + (j + 1) = i + 1 + j by omega]; exact g4⟩
        show (match Instr.sameNow (kd s) key.up e.key.up with | some true => _ | some false => _ | none => _) = _
        rw [h1, show i + (j + 1) = i + 1 + j by omega]; exact g1
theorem snocK_true {x : ME} : ∀ (l : List ME) {k : List ME → R}, snocK x l k = true → k (l ++ [x]) = true
  | [], k, h => h
  | e :: l, k, h => snocK_true l (k := fun r => k (⟨e.key, e.val, e.born⟩ :: r)) h
theorem putE_true {v : SV} : ∀ (l : List ME) (i : Nat) {k : List ME → R}, putE v l i k = true → ∃ l', k l' = true ∧ l'.length = l.length ∧ ∀ (p : Nat), l'[p]? = if p = i then (l[p]?).map (fun e => ⟨e.key, v, e.born⟩) else l[p]?
  | [], i, k, h => not_bad h
  | e :: l, 0, k, h => ⟨⟨e.key, v, e.born⟩ :: l, h, rfl, fun p => by cases p with | zero => rfl | succ p => rw [if_neg (by omega)]; rfl⟩
  | e :: l, i + 1, k, h => by
    obtain ⟨l', h1, h2, h3⟩ := putE_true l i (k := fun r => k (⟨e.key, e.val, e.born⟩ :: r)) h
    refine ⟨_, h1, by simp [h2], fun p => ?_⟩
    cases p with
    | zero => rw [if_neg (by omega)]; rfl
    | succ p =>
      rw [List.getElem?_cons_succ, h3 p, List.getElem?_cons_succ]
      by_cases hp : p = i
      · rw [if_pos hp, if_pos (by omega)]
      · rw [if_neg hp, if_neg (by omega)]
theorem okS_true {ok : Bool} {v : SV} {b : Bool} {k : SV → R} (hv : ∀ r : SV, SV.tl (.cons v r) = v.up :: r.tl) (h : okS ok v b k = true) : ∃ s : SV, s.up = okV ok v.up b ∧ k s = true := by
  cases ok with
  | false => exact ⟨v, rfl, h⟩
  | true =>
    refine ⟨_, ?_, (show k (.cons v (.cons (.val (.bool b)) .nil)) = true from h)⟩
    show Value.tuple ⟨SV.tl (.cons v (.cons (.val (.bool b)) .nil))⟩ = _
    rw [hv]
    rfl
theorem hd1_true {x : SV} {k : SV → R} (h : hd1 x k = true) : k x = true ∧ ∀ r : SV, SV.tl (.cons x r) = x.up :: r.tl := by
  cases x with
  | val v => exact ⟨h, fun r => rfl⟩
  | row m f => exact ⟨h, fun r => rfl⟩
  | nil => exact not_bad h
  | cons a b => exact not_bad h
theorem rMakeMap_ok {mt : TypeId} (hk : okOp ⟨dst, .makeMap mt none, ty, pos, after, guard⟩ = true) : LOk P B w0 n ⟨dst, .makeMap mt none, ty, pos, after, guard⟩ rMakeMap := by
  intro rec L F k t A hR h1 h2 hM h
  obtain ⟨h3, h4⟩ := newF_true h
  have hr := hM.room h3
  have : opA P (ev t) ⟨dst, .makeMap mt none, ty, pos, after, guard⟩ A = some (.val (.map (some A.next)), A.add ⟨.map #[] 0, false, false⟩) := by
    unfold opA
    rw [hk, cond_true]
    show valA (makeMapA A) = _
    unfold makeMapA
    rw [hr]
    rfl
  rw [this]
  refine ⟨_, _, ?_, hM.add h3 (.map (es := []) (c := #[]) rfl), h4⟩
  rw [hM.next]
  rfl
theorem rMakeSlice_ok {s e : TypeId} {x y : Operand} {a b' : Acc} {z : List Value} {i : TypeInfo} (hu : P.underlying s = some (.slice e)) (hz : zeroB P e = some z) (hi : P.info? e = some i) (h64 : z.length ≤ 64) (ha : AccOk n x a) (hb : AccOk n y b') (hk : okOp ⟨dst, .makeSlice s x y, ty, pos, after, guard⟩ = true) :
    QOk P n ⟨dst, .makeSlice s x y, ty, pos, after, guard⟩ (rMakeSlice (rowOf z 0 row0) z.length i.bytes e a b') := by
  intro rec L F k t A h1 h2 hM h
  obtain ⟨it, v, hi', hv, hcz, hcs, hpos, hzl, hsz, hone⟩ := zeroB_spec hz
  rw [hi] at hi'; injection hi' with hi'; subst hi'
  have h0 : 0 < z.length := by omega
  obtain ⟨kl, zl, h3, h4⟩ := intK_true h
  obtain ⟨l, rfl, h5⟩ := natV_true h4
  obtain ⟨kc, zc, h6, h7⟩ := intK_true h5
  obtain ⟨c, rfl, h8⟩ := natV_true h7
  obtain ⟨h9, h10⟩ := ifK_true h8
  rw [Bool.and_eq_true, Bool.and_eq_true] at h9
  obtain ⟨⟨r1, r2⟩, r3⟩ := h9
  have r1' : l ≤ c := Nat.le_of_ble_eq_true r1
  have r2' : c ≤ 512 := Nat.le_of_ble_eq_true r2
  obtain ⟨h11, h12⟩ := newF_true h10
  have e1 : ev t x = .int kl (Int.ofNat l) := (ha L t h1 h2).symm.trans (by rw [h3]; rfl)
  have e2 : ev t y = .int kc (Int.ofNat c) := (hb L t h1 h2).symm.trans (by rw [h6]; rfl)
  have hr := hM.room h11
  have hop : ghostA P (ev t) ⟨dst, .makeSlice s x y, ty, pos, after, guard⟩ = some (madeCells v.cells (c * i.size), e, some (l, c)) := by
    unfold ghostA
    dsimp only
    rw [e1, e2]
    rw [hu]
    dsimp only
    rw [hi]
    dsimp only
    rw [hv]
    dsimp only
    have hq : (decide ((0 : Int) ≤ Int.ofNat l) && decide (Int.ofNat l ≤ Int.ofNat c) && Nat.ble ((Int.ofNat c).toNat * i.size) 16777216 && Nat.ble (i.bytes * (Int.ofNat c).toNat) 281474976710656 && Nat.ble (Int.ofNat c).toNat 4611686018427387904) = true := by
      rw [Bool.and_eq_true, Bool.and_eq_true, Bool.and_eq_true, Bool.and_eq_true]
      have q1 : c * i.size ≤ 512 * 64 := Nat.mul_le_mul r2' (by omega)
      exact ⟨⟨⟨⟨decide_eq_true (Int.natCast_nonneg l), decide_eq_true (by simp only [Int.ofNat_eq_natCast]; omega)⟩, Nat.ble_eq_true_of_le (by show c * i.size ≤ _; omega)⟩, r3⟩, Nat.ble_eq_true_of_le (by show c ≤ _; omega)⟩
    rw [hq]
    rfl
  rw [mk_ghost hk (fun _ => rfl) hop]
  refine ⟨hr, _, _, ?_, hM.add h11 (.blk (rows := r8 (r8 (r8 (rowOf z 0 row0)))) (n := c) (esz := z.length) h0 h64 r2' (by rw [size_madeCells, hzl]) fun j hj => ?_), h12⟩
  · rw [hM.next]
    rfl
  · rw [hzl] at hj
    have hm : j % z.length < z.length := Nat.mod_lt _ h0
    unfold cellAt
    have hd : j / z.length < c := Nat.div_lt_of_lt_mul (by rw [hzl, Nat.mul_comm]; exact hj)
    unfold madeCells
    rw [r8_at _ _ (by omega), ← rowOf_up h64 hone hm row0, Array.getElem?_map, Array.getElem?_range, if_pos hj, Option.map_some, ← hcz, Array.getElem?_toList]
    have e1 : v.cells.size = z.length := by rw [hcs, hzl]
    rw [hcz, e1, getElem!_pos v.cells _ (by omega), ← Array.getElem?_eq_getElem]
theorem opA_lookup {mt : TypeId} {x y : Operand} {ok : Bool} {t : Operand → Value} {A : AW} (hk : okOp ⟨dst, .lookup mt x y ok, ty, pos, after, guard⟩ = true) {v : Value} (h : lookupA P mt (t x) (t y) ok A = some v) : opA P t ⟨dst, .lookup mt x y ok, ty, pos, after, guard⟩ A = some (.val v, A) := by
  unfold opA
  rw [hk, cond_true]
  dsimp only
  rw [h]
theorem rLookup_ok {mt kt e : TypeId} {x y : Operand} {ok : Bool} {a b' : Acc} {s : Option IntKind} {ie : TypeInfo} {z : Value} {zero : SV} (hu : P.underlying mt = some (.map kt e)) (hs : keyB P kt = some s) (hi : P.info? e = some ie) (hz : ie.zero = some z) (hzero : zero.up = z) (ha : AccOk n x a) (hb : AccOk n y b') (hk : okOp ⟨dst, .lookup mt x y ok, ty, pos, after, guard⟩ = true) :
    LOk P B w0 n ⟨dst, .lookup mt x y ok, ty, pos, after, guard⟩ (rLookup s zero ok a b') := by
  intro rec L F k t A hR h1 h2 hM h
  obtain ⟨key, h3, h4⟩ := valK_true h
  obtain ⟨hkt, h5⟩ := kindK_true h4
  have e2 : ev t y = key.up := (hb L t h1 h2).symm.trans (by rw [h3]; rfl)
  have hd := keyB_spec hs
  have base : ∀ (X : Option Value), (match ev t x with
          | .map none => some (okV ok z false)
          | .map (some r) => match A.heap.get r with
            | some ⟨.map es _, _, _⟩ => match Instr.findNow (kd s) key.up es.toList 0 with
              | some (some (_, v)) => some (okV ok v true)
              | some none => some (okV ok z false)
              | none => none
            | _ => none
          | _ => none) = X → lookupA P mt (ev t x) (ev t y) ok A = X := by
    intro X hX
    unfold lookupA
    rw [hu]
    dsimp only
    rw [hd, hi]
    dsimp only
    rw [hz, e2]
    dsimp only
    rw [hkt, cond_true]
    exact hX
  have post : ∀ {v : Value}, lookupA P mt (ev t x) (ev t y) ok A = some v → (∃ sv : SV, sv.up = v ∧ k sv F = true) → (match opA P (ev t) ⟨dst, .lookup mt x y ok, ty, pos, after, guard⟩ A with
      | some (.val v, A') => Post k v A'
      | some (.skip, A') => Post k undef A'
      | some (.enter f args, A') => CallS P B w0 f args A' (Post k)
      | some (.round b tmps a c, A') => RoundW P B w0 b tmps a c A' (Post k)
      | none => NextK (ev t) ⟨dst, .lookup mt x y ok, ty, pos, after, guard⟩ A (Post k)) := by
    rintro v hv ⟨sv, g1, g2⟩
    rw [opA_lookup hk hv]
    exact ⟨sv, F, g1, hM, g2⟩
  rcases mpK_true h5 with ⟨h6, h7⟩ | ⟨b, h6, h7⟩
  · have e1 : ev t x = .map none := (ha L t h1 h2).symm.trans h6
    obtain ⟨h8, h9⟩ := hd1_true h7
    obtain ⟨sv, g1, g2⟩ := okS_true h9 h8
    exact post (base _ (by rw [e1])) ⟨sv, by rw [g1, hzero], g2⟩
  · have e1 : ev t x = .map (some b) := (ha L t h1 h2).symm.trans (by rw [h6]; rfl)
    obtain ⟨hb2, es, c, h8, h9⟩ := mapK_true h7
    obtain ⟨cs, q1, q2⟩ := hM.map hb2 h8
    rcases findF_true hkt es 0 h9 with ⟨g1, g2⟩ | ⟨j, e', g1, g2, g3, g4⟩
    · obtain ⟨h10, h11⟩ := hd1_true g2
      obtain ⟨sv, g5, g6⟩ := okS_true h11 h10
      refine post (base _ ?_) ⟨sv, by rw [g5, hzero], g6⟩
      rw [e1]
      dsimp only
      rw [q1]
      dsimp only
      rw [q2, g1]
    · obtain ⟨h10, h11⟩ := hd1_true g4
      obtain ⟨sv, g5, g6⟩ := okS_true h11 h10
      refine post (base _ ?_) ⟨sv, g5, g6⟩
      rw [e1]
      dsimp only
      rw [q1]
      dsimp only
      rw [q2, g1]
theorem opA_update {mt : TypeId} {x y z : Operand} {t : Operand → Value} {A A' : AW} {q : Bool} (hk : okOp ⟨dst, bif q then .insert mt x y z else .mapUpdate mt x y z, ty, pos, after, guard⟩ = true) (h : mapUpdateA P mt (t x) (t y) (t z) A = some A') : opA P t ⟨dst, bif q then .insert mt x y z else .mapUpdate mt x y z, ty, pos, after, guard⟩ A = some (.skip, A') := by
  cases q with
  | false =>
    unfold opA
    rw [hk, cond_true]
    dsimp only [cond_false]
    rw [h]
  | true =>
    unfold opA
    rw [hk, cond_true]
    dsimp only [cond_true]
    rw [h]
theorem rMapUpdate_ok {mt kt e : TypeId} {x y z : Operand} {q : Bool} {a b' c' : Acc} {s : Option IntKind} (hu : P.underlying mt = some (.map kt e)) (hs : keyB P kt = some s) (ha : AccOk n x a) (hb : AccOk n y b') (hc : AccOk n z c') (hk : okOp ⟨dst, bif q then .insert mt x y z else .mapUpdate mt x y z, ty, pos, after, guard⟩ = true) :
    LOk P B w0 n ⟨dst, bif q then .insert mt x y z else .mapUpdate mt x y z, ty, pos, after, guard⟩ (rMapUpdate s a b' c') := by
  intro rec L F k t A hR h1 h2 hM h
  obtain ⟨key, h3, h4⟩ := valK_true h
  obtain ⟨hkt, h5⟩ := kindK_true h4
  obtain ⟨h6, _⟩ := hd1_true h5
  have e2 : ev t y = key.up := (hb L t h1 h2).symm.trans (by rw [h3]; rfl)
  have e3 : ev t z = (c' L).up := (hc L t h1 h2).symm
  have hd := keyB_spec hs
  rcases mpK_true h6 with ⟨_, h7⟩ | ⟨b, h7, h8⟩
  · exact not_bad h7
  have e1 : ev t x = .map (some b) := (ha L t h1 h2).symm.trans (by rw [h7]; rfl)
  obtain ⟨hb2, es, c, h9, h10⟩ := mapK_true h8
  obtain ⟨cs, q1, q2⟩ := hM.map hb2 h9
  have base : ∀ (X : Option AW), (match Instr.findNow (kd s) key.up (es.map upE) 0 with
            | some (some (i, _)) => some (A.put b (some ⟨.map (cs.modify i fun e => { e with key := key.up, val := (c' L).up }) c, false, false⟩))
            | some none => some (A.put b (some ⟨.map (cs.push { key := key.up, val := (c' L).up, born := c }) (c + 1), false, false⟩))
            | none => none) = X → mapUpdateA P mt (ev t x) (ev t y) (ev t z) A = X := by
    intro X hX
    unfold mapUpdateA
    rw [hu]
    dsimp only
    rw [hd]
    dsimp only
    rw [e1, e2, e3]
    rw [hkt, cond_true]
    dsimp only
    rw [q1]
    dsimp only
    rw [q2]
    exact hX
  rcases findF_true hkt es 0 h10 with ⟨g1, g2⟩ | ⟨j, e', g1, g2, g3, g4⟩
  · have g5 := snocK_true _ g2
    have g6 := putF_true hb2 (show putF b _ F _ = true from g5)
    rw [opA_update hk (base _ (by rw [g1]))]
    refine ⟨u0, _, rfl, hM.putA hb2 (.map ?_), g6⟩
    rw [Array.toList_push, q2, List.map_append]
    rfl
  · obtain ⟨l', g5, g6, g7⟩ := putE_true _ _ g4
    have g8 := putF_true hb2 (show putF b _ F _ = true from g5)
    rw [opA_update hk (base _ (by rw [g1]))]
    refine ⟨u0, _, rfl, hM.putA hb2 (.map ?_), g8⟩
    apply List.ext_getElem?
    intro p
    rw [Array.getElem?_toList, Array.getElem?_modify, List.getElem?_map, g7 p, Nat.zero_add]
    have e4 : cs[p]? = (es[p]?).map upE := by rw [← Array.getElem?_toList, q2, List.getElem?_map]
    rw [e4]
    by_cases hp : p = j
    · subst hp
      rw [if_pos rfl, if_pos rfl, g2]
      simp only [Option.map_some, upE, g3]
    · rw [if_neg hp, if_neg (fun q => hp q.symm)]
      rfl
end
end
end Go.Proofs.YtfeppmhcpfccfaaGreatDoor.Fast
/- A fast evaluator, part S: walks over maps. Of no program. -/
namespace Go.Proofs.YtfeppmhcpfccfaaGreatDoor.Fast
open Go Go.RowKit Go.Proofs.YtfeppmhcpfccfaaGreatDoor.Sim
noncomputable section
section
variable {P : Program} {B : Nat} {w0 : Base} {n : Nat} {gl : Nat → Bool} {dst : Option Tmp} {ty : TypeId} {pos : String} {after : Array Edge} {guard : Option (Nat × Bool)}
theorem iterK_true {b : Nat} {F : FM} {k : Option Nat → Nat → List Nat → Nat → R} (h : iterK b F k = true) : b < 262144 ∧ ∃ m s l c, Lh.get b F.heap = .iter m s l c ∧ k m s l c = true := by
  obtain ⟨h1, h2⟩ := ifK_true h
  have hb := blt_lt h1
  refine ⟨hb, ?_⟩
  rw [w262144_get hb] at h2
  generalize (L262144 FO).get b F.heap = x at h2
  cases x with
  | no => exact not_bad h2
  | map es c => exact not_bad h2
  | iter m s l c => exact ⟨m, s, l, c, rfl, h2⟩
  | chan => exact not_bad h2
  | siter => exact not_bad h2
  | loop => exact not_bad h2
  | blk => exact not_bad h2
theorem MR.iter {F : FM} {A : AW} (h : MR F A) {b : Nat} (hb : b < 262144) {m : Option Nat} {s c : Nat} {l : List Nat} (hg : Lh.get b F.heap = .iter m s l c) : A.heap.get b = some ⟨.mapIter m s ⟨l⟩ c, false, false⟩ := by
  have := h.blk b hb
  rw [hg] at this
  generalize hy : A.heap.get b = y at this
  cases this with
  | iter => rfl
theorem rRange_ok {mt kt e : TypeId} {x : Operand} {a : Acc} (hu : P.underlying mt = some (.map kt e)) (ha : AccOk n x a) (hk : okOp ⟨dst, .range mt x, ty, pos, after, guard⟩ = true) : LOk P B w0 n ⟨dst, .range mt x, ty, pos, after, guard⟩ (rRange a) := by
  intro rec L F k t A hR h1 h2 hM h
  have fin : ∀ {m : Option Nat} {c : Nat}, rangeA P mt (ev t x) A = (bif A.room then some (.pointer (some ⟨A.next, 0, none⟩), A.add ⟨.mapIter m c #[] c, false, false⟩) else none) → newF (.iter m c [] c) F (fun r F => k (.val (.ptr r 0)) F) = true → (match opA P (ev t) ⟨dst, .range mt x, ty, pos, after, guard⟩ A with
      | some (.val v, A') => Post k v A'
      | some (.skip, A') => Post k undef A'
      | some (.enter f args, A') => CallS P B w0 f args A' (Post k)
      | some (.round b tmps a c, A') => RoundW P B w0 b tmps a c A' (Post k)
      | none => NextK (ev t) ⟨dst, .range mt x, ty, pos, after, guard⟩ A (Post k)) := by
    intro m c hr hn
    obtain ⟨h3, h4⟩ := newF_true hn
    have : opA P (ev t) ⟨dst, .range mt x, ty, pos, after, guard⟩ A = some (.val (.pointer (some ⟨A.next, 0, none⟩)), A.add ⟨.mapIter m c #[] c, false, false⟩) := by
      unfold opA
      rw [hk, cond_true]
      show valA (rangeA P mt (ev t x) A) = _
      rw [hr, hM.room h3]
      rfl
    rw [this]
    refine ⟨_, _, ?_, hM.add h3 (.iter m c [] c), h4⟩
    rw [hM.next]
    rfl
  rcases mpK_true h with ⟨h3, h4⟩ | ⟨b, h3, h4⟩
  · have e1 : ev t x = .map none := (ha L t h1 h2).symm.trans h3
    refine fin ?_ h4
    unfold rangeA
    rw [hu]
    dsimp only
    rw [e1]
  · have e1 : ev t x = .map (some b) := (ha L t h1 h2).symm.trans (by rw [h3]; rfl)
    obtain ⟨hb, es, c, h5, h6⟩ := mapK_true h4
    obtain ⟨cs, q1, q2⟩ := hM.map hb h5
    refine fin ?_ h6
    unfold rangeA
    rw [hu]
    dsimp only
    rw [e1]
    dsimp only
    rw [q1]
theorem siterK_true {b : Nat} {F : FM} {k : Nat → Nat → Nat → R} (h : siterK b F k = true) : b < 262144 ∧ ∃ n z p, Lh.get b F.heap = .siter n z p ∧ k n z p = true := by
  obtain ⟨h1, h2⟩ := ifK_true h
  have hb := blt_lt h1
  refine ⟨hb, ?_⟩
  rw [w262144_get hb] at h2
  generalize (L262144 FO).get b F.heap = x at h2
  cases x with
  | no => exact not_bad h2
  | map es c => exact not_bad h2
  | iter m s l c => exact not_bad h2
  | siter n z p => exact ⟨n, z, p, rfl, h2⟩
  | chan => exact not_bad h2
  | loop => exact not_bad h2
  | blk => exact not_bad h2
theorem MR.siter {F : FM} {A : AW} (h : MR F A) {b : Nat} (hb : b < 262144) {m z p : Nat} (hg : Lh.get b F.heap = .siter m z p) : A.heap.get b = some ⟨.stringIter (bytesOf m z) p, false, false⟩ := by
  have := h.blk b hb
  rw [hg] at this
  generalize hy : A.heap.get b = y at this
  cases this with
  | siter => rfl
theorem rRangeS_ok {st : TypeId} {x : Operand} {a : Acc} (hu : P.underlying st = some .string) (ha : AccOk n x a) (hk : okOp ⟨dst, .range st x, ty, pos, after, guard⟩ = true) : LOk P B w0 n ⟨dst, .range st x, ty, pos, after, guard⟩ (rRangeS a) := by
  intro rec L F k t A hR h1 h2 hM h
  obtain ⟨m, z, h3, h4⟩ := strK_true h
  have e1 : ev t x = .string (bytesOf m z) := (ha L t h1 h2).symm.trans (by rw [h3]; rfl)
  obtain ⟨h5, h6⟩ := newF_true h4
  have : opA P (ev t) ⟨dst, .range st x, ty, pos, after, guard⟩ A = some (.val (.pointer (some ⟨A.next, 0, none⟩)), A.add ⟨.stringIter (bytesOf m z) 0, false, false⟩) := by
    unfold opA
    rw [hk, cond_true]
    show valA (rangeA P st (ev t x) A) = _
    unfold rangeA
    rw [hu]
    dsimp only
    rw [hM.room h5, cond_true, e1]
    rfl
  rw [this]
  refine ⟨_, _, ?_, hM.add h5 (.siter m z 0), h6⟩
  rw [hM.next]
  rfl
theorem bytesOf_at {m z p : Nat} (h : p < (bytesOf m z).size) : ((bytesOf m z)[p]'h).toNat = (z >>> (8 * p)) % 256 := by
  have e : (bytesOf m z)[p]'h = UInt8.ofNat (Nat.shiftRight z (8 * p)) := by
    simp only [bytesOf, ByteArray.getElem_eq_getElem_data]
    simp
  rw [e]
  rfl
theorem rNextS_ok {x : Operand} {a : Acc} (ha : AccOk n x a) (hk : okOp ⟨dst, .next x true, ty, pos, after, guard⟩ = true) : LOk P B w0 n ⟨dst, .next x true, ty, pos, after, guard⟩ (rNextS a) := by
  intro rec L F k t A hR h1 h2 hM h
  obtain ⟨r, o, h3, h4⟩ := ptrK_true h
  obtain ⟨h5, h6⟩ := ifK_true h4
  obtain rfl := beq_eq h5
  obtain ⟨hb, m, z, p, h7, h8⟩ := siterK_true h6
  have q0 := hM.siter hb h7
  have e1 : ev t x = .pointer (some ⟨r, 0, none⟩) := (ha L t h1 h2).symm.trans (by rw [h3]; rfl)
  have hop : opA P (ev t) ⟨dst, .next x true, ty, pos, after, guard⟩ A = valA (nextSA (ev t x) A) := by
    unfold opA
    rw [hk, cond_true]
  rw [hop, e1]
  simp only [nextSA, q0, bytesOf_size]
  cases hq : Nat.blt p m with
  | false =>
    rw [hq] at h8
    exact ⟨over, F, rfl, hM, h8⟩
  | true =>
    rw [hq] at h8
    have h8 : ifK (Nat.blt (Nat.mod (Nat.shiftRight z (Nat.mul 8 p)) 256) 128) (putF r (.siter m z (Nat.succ p)) F fun F => k (.cons (.val (.bool true)) (.cons (.val (.int .i64 (Int.ofNat p))) (.cons (.val (.int .i32 (Int.ofNat (Nat.mod (Nat.shiftRight z (Nat.mul 8 p)) 256)))) .nil))) F) bad = true := h8
    obtain ⟨g1, g2⟩ := ifK_true h8
    have hlt : p < (bytesOf m z).size := by rw [bytesOf_size]; exact blt_lt hq
    have hd : Utf8.decode (bytesOf m z) p = ((z >>> (8 * p)) % 256, 1) := by
      rw [Go.decode_ascii _ p hlt (by rw [bytesOf_at]; exact blt_lt g1), bytesOf_at]
    have g3 := putF_true hb g2
    rw [cond_true, hd]
    exact ⟨_, _, rfl, hM.putA hb (.siter m z (p + 1)), g3⟩
theorem memNat_eq (x : Nat) : ∀ (l : List Nat), memNat x l = l.contains x
  | [] => rfl
  | a :: l => by
    have h : memNat x (a :: l) = Bool.rec (motive := fun _ => Bool) (memNat x l) true (Nat.beq a x) := rfl
    rw [h, List.contains_cons, memNat_eq x l]
    by_cases hq : a = x
    · subst hq; rw [Nat.beq_refl]; simp
    · rw [Tr.beq_false hq]
      have : (x == a) = false := by simpa using fun e => hq e.symm
      rw [this]
      rfl
theorem leftsK_true {seen : List Nat} : ∀ (l : List ME) {k : List ME → R}, leftsK seen l k = true → ∃ l', (l.map upE).filter (fun e => !(⟨seen⟩ : Array Nat).contains e.born) = l'.map upE ∧ k l' = true
  | [], k, h => ⟨[], rfl, h⟩
  | e :: l, k, h => by
    have h' : Bool.rec (motive := fun _ => R) (leftsK seen l fun l => k (⟨e.key, e.val, e.born⟩ :: l)) (leftsK seen l k) (memNat e.born seen) = true := h
    rw [List.map_cons, List.filter_cons]
    have hc : (⟨seen⟩ : Array Nat).contains (upE e).born = memNat e.born seen := by
      rw [memNat_eq]
      exact List.contains_toArray
    rw [hc]
    cases hq : memNat e.born seen with
    | true =>
      rw [hq] at h'
      exact leftsK_true l h'
    | false =>
      rw [hq] at h'
      obtain ⟨l', h1, h2⟩ := leftsK_true l (k := fun l => k (e :: l)) h'
      exact ⟨e :: l', by rw [h1]; rfl, h2⟩
theorem andK_true {x y : R} (h : andK x y = true) : x = true ∧ y = true := by cases x <;> first | exact ⟨rfl, h⟩ | exact not_bad h
theorem allN_true {f : ME → R} : ∀ (l : List ME), allN f l = true → ∀ e ∈ l, f e = true
  | [], _, e, he => by cases he
  | a :: l, h, e, he => by
    obtain ⟨h1, h2⟩ := andK_true (show andK (f a) (allN f l) = true from h)
    rcases List.mem_cons.1 he with rfl | he
    · exact h1
    · exact allN_true l h2 e he
theorem someBelow_eq (m : Nat) : ∀ (l : List ME), someBelow m l = !((l.map upE).all fun e => decide (m ≤ e.born))
  | [] => rfl
  | e :: l => by
    have h : someBelow m (e :: l) = Bool.rec (motive := fun _ => Bool) (someBelow m l) true (Nat.blt e.born m) := rfl
    rw [h, List.map_cons, List.all_cons, someBelow_eq m l, natBlt]
    show _ = !(decide (m ≤ e.born) && _)
    by_cases hq : e.born < m
    · rw [decide_eq_true hq, decide_eq_false (by omega)]; rfl
    · rw [decide_eq_false hq, decide_eq_true (by omega)]; rfl
theorem snocN_true {x : Nat} : ∀ (l : List Nat) {k : List Nat → R}, snocN x l k = true → k (l ++ [x]) = true
  | [], k, h => h
  | a :: l, k, h => snocN_true l (k := fun r => k (a :: r)) h
theorem isNil_eq {α : Type} (l : List α) : isNil l = l.isEmpty := by cases l <;> rfl
theorem rNext_ok {x : Operand} {a : Acc} (ha : AccOk n x a) (hk : okOp ⟨dst, .next x false, ty, pos, after, guard⟩ = true) : LOk P B w0 n ⟨dst, .next x false, ty, pos, after, guard⟩ (rNext a) := by
  intro rec L F k t A hR h1 h2 hM h
  obtain ⟨r, o, h3, h4⟩ := ptrK_true h
  obtain ⟨h5, h6⟩ := ifK_true h4
  obtain rfl := beq_eq h5
  obtain ⟨hb, m, since, seen, last, h7, h8⟩ := iterK_true h6
  have q0 := hM.iter hb h7
  have e1 : ev t x = .pointer (some ⟨r, 0, none⟩) := (ha L t h1 h2).symm.trans (by rw [h3]; rfl)
  have hop : opA P (ev t) ⟨dst, .next x false, ty, pos, after, guard⟩ A = valA (nextA (ev t x) A) := by
    unfold opA
    rw [hk, cond_true]
  rw [hop, e1]
  simp only [nextA, q0]
  cases m with
  | none =>
    dsimp only
    exact ⟨over, F, rfl, hM, h8⟩
  | some b =>
    dsimp only
    obtain ⟨hb2, es, clock, h9, h10⟩ := mapK_true (show mapK b F _ = true from h8)
    obtain ⟨cs, q1, q2⟩ := hM.map hb2 h9
    rw [q1]
    dsimp only
    obtain ⟨h11, h12⟩ := ifK_true h10
    have hc : (!(⟨seen⟩ : Array Nat).isEmpty && !cs.isEmpty && cs.toList.all (fun e => decide (last ≤ e.born))) = false := by
      rw [q2]
      rw [isNil_eq, isNil_eq, someBelow_eq] at h11
      have e2 : cs.isEmpty = es.isEmpty := by
        rw [← Array.isEmpty_toList, q2]
        cases es <;> rfl
      have e3 : (⟨seen⟩ : Array Nat).isEmpty = seen.isEmpty := by cases seen <;> rfl
      rw [e2, e3]
      revert h11
      generalize seen.isEmpty = u
      generalize es.isEmpty = v
      generalize (es.map upE).all (fun e => decide (last ≤ e.born)) = z
      cases u <;> cases v <;> cases z <;> intro h11 <;> first | rfl | cases h11
    have hc' := hc
    rw [hc, cond_false, q2]
    obtain ⟨l, g1, g2⟩ := leftsK_true es h12
    rw [g1]
    have one : ∀ e : ME, oneN r b since clock seen F k e = true → Nat.blt (upE e).born since = true ∧ Post k (.tuple #[.bool true, (upE e).key, (upE e).val]) (A.put r (some ⟨.mapIter (some b) since ((⟨seen⟩ : Array Nat).push (upE e).born) clock, false, false⟩)) := by
      intro e g2
      obtain ⟨g3, g4⟩ := ifK_true (show ifK (Nat.blt e.born since) _ bad = true from g2)
      obtain ⟨g5, g6⟩ := hd1_true g4
      have g7 := snocN_true _ g5
      have g8 := putF_true hb (show putF r _ F _ = true from g7)
      refine ⟨g3, _, _, ?_, hM.putA hb ?_, g8⟩
      · show Value.tuple ⟨SV.tl (.cons (.val (.bool true)) (.cons (.val e.key) (.cons e.val .nil)))⟩ = _
        show Value.tuple ⟨.bool true :: e.key.up :: SV.tl (.cons e.val .nil)⟩ = _
        rw [g6]
        rfl
      · have : (⟨seen⟩ : Array Nat).push (upE e).born = ⟨seen ++ [e.born]⟩ := by simp [upE]
        rw [this]
        exact .iter _ _ _ _
    cases l with
    | nil => exact ⟨over, F, rfl, hM, g2⟩
    | cons e t2 =>
      cases t2 with
      | nil =>
        obtain ⟨p1, p2⟩ := one e g2
        rw [List.map_cons, List.map_nil]
        dsimp only
        rw [p1, cond_true]
        exact p2
      | cons e2 t3 =>
        have hall := allN_true (e :: e2 :: t3) g2
        have hN : nextAll (ev t x) A = ((e :: e2 :: t3).map upE).map fun e => (Value.tuple #[.bool true, e.key, e.val], A.put r (some ⟨.mapIter (some b) since ((⟨seen⟩ : Array Nat).push e.born) clock, false, false⟩)) := by
          rw [e1]
          simp only [nextAll, q0]
          rw [q1]
          dsimp only
          rw [hc', cond_false, q2, g1]
          have hb2 : (((e :: e2 :: t3).map upE).all (fun e => Nat.blt e.born since) && Nat.ble 2 ((e :: e2 :: t3).map upE).length) = true := by
            rw [Bool.and_eq_true]
            refine ⟨List.all_eq_true.2 fun y hy => ?_, Nat.ble_eq_true_of_le (by simp)⟩
            obtain ⟨z, hz, rfl⟩ := List.mem_map.1 hy
            exact (one z (hall z hz)).1
          rw [hb2, cond_true]
        show NextK (ev t) ⟨dst, .next x false, ty, pos, after, guard⟩ A (Post k)
        refine ⟨hk, x, rfl, by rw [hN]; simp, fun p hp => ?_⟩
        rw [hN] at hp
        obtain ⟨y, hy, rfl⟩ := List.mem_map.1 hp
        obtain ⟨z, hz, rfl⟩ := List.mem_map.1 hy
        exact (one z (hall z hz)).2
theorem lastN_true : ∀ (l : List Nat) {k : Nat → R}, lastN l k = true → ∃ x, (⟨l⟩ : Array Nat).back? = some x ∧ k x = true
  | [], k, h => not_bad h
  | [a], k, h => ⟨a, by simp, h⟩
  | a :: b :: l, k, h => by
    obtain ⟨x, h1, h2⟩ := lastN_true (b :: l) (k := k) h
    refine ⟨x, ?_, h2⟩
    rw [List.back?_toArray] at h1 ⊢
    rw [List.getLast?_cons_cons]
    exact h1
theorem findB_true {m : Nat} : ∀ (l : List ME) {k : FV → SV → R}, findB m l k = true → ∃ e, (l.map upE).find? (fun e => e.born == m) = some (upE e) ∧ k e.key e.val = true
  | [], k, h => not_bad h
  | e :: l, k, h => by
    have h' : Bool.rec (motive := fun _ => R) (findB m l k) (k e.key e.val) (Nat.beq e.born m) = true := h
    rw [List.map_cons, List.find?_cons]
    have hb : ((upE e).born == m) = Nat.beq e.born m := by rw [natBeq]; rfl
    rw [hb]
    cases hq : Nat.beq e.born m with
    | true => rw [hq] at h'; exact ⟨e, rfl, h'⟩
    | false => rw [hq] at h'; exact findB_true l h'
theorem rEntry_ok {x : Operand} {a : Acc} (ha : AccOk n x a) (hk : okOp ⟨dst, .entry x, ty, pos, after, guard⟩ = true) : LOk P B w0 n ⟨dst, .entry x, ty, pos, after, guard⟩ (rEntry a) := by
  intro rec L F k t A hR h1 h2 hM h
  obtain ⟨r, o, h3, h4⟩ := ptrK_true h
  obtain ⟨h5, h6⟩ := ifK_true h4
  obtain rfl := beq_eq h5
  obtain ⟨hb, m, since, seen, last, h7, h8⟩ := iterK_true h6
  have q0 := hM.iter hb h7
  have e1 : ev t x = .pointer (some ⟨r, 0, none⟩) := (ha L t h1 h2).symm.trans (by rw [h3]; rfl)
  cases m with
  | none => exact not_bad h8
  | some b =>
    obtain ⟨st, g1, g2⟩ := lastN_true seen h8
    obtain ⟨hb2, es, clock, h9, h10⟩ := mapK_true g2
    obtain ⟨cs, q1, q2⟩ := hM.map hb2 h9
    obtain ⟨h11, h12⟩ := ifK_true h10
    obtain ⟨e, g3, g4⟩ := findB_true es h12
    obtain ⟨g5, g6⟩ := hd1_true g4
    have hen : entryA (ev t x) A = some (.tuple #[e.key.up, e.val.up]) := by
      rw [e1]
      simp only [entryA, q0, g1, q1]
      rw [h11, cond_true, q2, g3]
      rfl
    have hop : opA P (ev t) ⟨dst, .entry x, ty, pos, after, guard⟩ A = some (.val (.tuple #[e.key.up, e.val.up]), A) := by
      unfold opA
      rw [hk, cond_true]
      dsimp only
      rw [hen]
    rw [hop]
    refine ⟨_, F, ?_, hM, g5⟩
    show Value.tuple ⟨e.key.up :: SV.tl (.cons e.val .nil)⟩ = _
    rw [g6]
    rfl
theorem dropE_true : ∀ (l : List ME) (i : Nat) {k : List ME → R}, dropE l i k = true → k (l.eraseIdx i) = true
  | [], i, k, h => not_bad h
  | e :: l, 0, k, h => h
  | e :: l, i + 1, k, h => dropE_true l i (k := fun r => k (⟨e.key, e.val, e.born⟩ :: r)) h
theorem map_eraseIdx {α β : Type} (f : α → β) : ∀ (l : List α) (i : Nat), (l.eraseIdx i).map f = (l.map f).eraseIdx i
  | [], _ => rfl
  | _ :: _, 0 => rfl
  | a :: l, i + 1 => by simp [map_eraseIdx f l i]
theorem zeroCells_at {v : Value} {m p : Nat} (hp : p < m * v.cells.size) : (Builtin.zeroCells v.cells m).toList[p]? = v.cells[p % v.cells.size]? := by
  have h0 : 0 < v.cells.size := by
    rcases Nat.eq_zero_or_pos v.cells.size with h | h
    · rw [h] at hp; omega
    · exact h
  have hm := Nat.mod_lt p h0
  unfold Builtin.zeroCells
  rw [Array.getElem?_toList, Array.getElem?_map, Array.getElem?_range, if_pos hp, Option.map_some, getElem!_pos v.cells _ hm, ← Array.getElem?_eq_getElem]
theorem rClear_ok {mt e : TypeId} {x : Operand} {args : Array Operand} {ts : Array TypeId} {a : Acc} {z : List Value} (hargs : args.toList = [x]) (hts : ts.toList = [mt]) (hu : P.underlying mt = some (.slice e)) (hz : zeroB P e = some z) (hz6 : z.length ≤ 64) (ha : AccOk n x a) (hk : okOp ⟨dst, .call ⟨.builtin .clear, args, ts⟩, ty, pos, after, guard⟩ = true) :
    LOk P B w0 n ⟨dst, .call ⟨.builtin .clear, args, ts⟩, ty, pos, after, guard⟩ (rClear (rowOf z 0 row0) z.length a) := by
  intro rec L F k t A hR h1 h2 hM h
  have fin : ∀ {A' : AW} {F' : FM}, clearA P mt (ev t x) A = some A' → MR F' A' → k .nil F' = true → (match opA P (ev t) ⟨dst, .call ⟨.builtin .clear, args, ts⟩, ty, pos, after, guard⟩ A with
      | some (.val v, A') => Post k v A'
      | some (.skip, A') => Post k undef A'
      | some (.enter f args, A') => CallS P B w0 f args A' (Post k)
      | some (.round b tmps a c, A') => RoundW P B w0 b tmps a c A' (Post k)
      | none => NextK (ev t) ⟨dst, .call ⟨.builtin .clear, args, ts⟩, ty, pos, after, guard⟩ A (Post k)) := by
    intro A' F' hcl hM' hk'
    have hop : opA P (ev t) ⟨dst, .call ⟨.builtin .clear, args, ts⟩, ty, pos, after, guard⟩ A = some (.val (.tuple #[]), A') := by
      unfold opA
      rw [hk, cond_true]
      dsimp only
      rw [hargs, hts]
      dsimp only
      rw [hcl]
    rw [hop]
    exact ⟨.nil, F', rfl, hM', hk'⟩
  rcases slcK_true h with ⟨m, c, h3, h4⟩ | ⟨b, o, m, c, h3, h4⟩
  · refine fin ?_ hM h4
    unfold clearA
    rw [hu, show ev t x = .slice none m c from (ha L t h1 h2).symm.trans (by rw [h3]; rfl)]
  · have e1 : ev t x = .slice (some ⟨b, o, none⟩) m c := (ha L t h1 h2).symm.trans (by rw [h3]; rfl)
    cases hq : Nat.beq m 0 with
    | true =>
      rw [hq] at h4
      refine fin ?_ hM h4
      unfold clearA
      rw [hu, e1]
      dsimp only
      rw [hq]
      rfl
    | false =>
      rw [hq] at h4
      obtain ⟨hb, rows, n1, esz, e2, fam, ro, h5, h6⟩ := blkK_true (show blkK b F _ = true from h4)
      obtain ⟨h7, h8⟩ := ifK_true h6
      rw [Bool.and_eq_true, Bool.and_eq_true] at h7
      obtain ⟨⟨q1, q2⟩, q3⟩ := h7
      have hro : ro = false := by cases ro <;> first | rfl | cases q1
      subst hro
      obtain rfl := beq_eq q2
      have hal : o % z.length = 0 := beq_eq q3
      obtain ⟨h9, h10⟩ := ifK_true (show ifK (Nat.ble (Nat.add (Nat.div o z.length) m) n1) _ bad = true from h8)
      have hfit : o / z.length + m ≤ n1 := Nat.le_of_ble_eq_true h9
      obtain ⟨cc, hc⟩ := hM.at hb h5
      have hc0 := hc.h0
      have hc2 := hc.h2
      obtain ⟨r, r1, r2⟩ := copyR_true m 0 (o / z.length) _ rows _ (by rw [Nat.zero_add]; exact Nat.le_trans (Nat.le_trans (Nat.le_add_left _ _) hfit) hc2) (Nat.le_trans hfit hc2) h10
      have h13 := putF_true hb r1
      obtain ⟨it, v, hi, hv, hcz, hcs, hpos, hzl, hsz, hone⟩ := zeroB_spec hz
      have hvs : v.cells.size = z.length := by omega
      have ho : o = o / z.length * z.length := by
        have := Nat.div_add_mod o z.length
        rw [hal, Nat.add_zero, Nat.mul_comm] at this
        exact this.symm
      have hlen : (Builtin.zeroCells v.cells m).toList.length = m * z.length := by simp [Builtin.zeroCells, hvs]
      have hmul : o / z.length * z.length + m * z.length ≤ n1 * z.length := by rw [← Nat.add_mul]; exact Nat.mul_le_mul_right _ hfit
      obtain ⟨A', c', g1, g2, g3, g4, g5, g6⟩ := run_storeCells (P := P) (o := o) hb (Builtin.zeroCells v.cells m).toList 0 A cc hc.get (by rw [hlen, hc.size]; omega) (fun u hu => by
        obtain ⟨p, hp⟩ := List.getElem?_of_mem hu
        have hpl : p < m * z.length := by
          rw [← hlen]
          exact (List.getElem?_eq_some_iff.1 hp).1
        rw [zeroCells_at (by rw [hvs]; exact hpl), ← Array.getElem?_toList, hcz] at hp
        exact hone u (List.mem_of_getElem? hp))
      refine fin (A' := A') ?_ (hM.put hb g2 ?_ g3) h13
      · unfold clearA
        rw [hu, e1]
        dsimp only
        rw [hq, cond_false, hi]
        dsimp only
        rw [hv]
        dsimp only
        rw [g1]
      · rw [g4]
        refine .blk hc.h0 hc.h1 hc.h2 (by rw [g5]; exact hc.size) fun j hj => ?_
        rw [g6 j, hlen, Nat.add_zero]
        have hd : j / z.length < n1 := Nat.div_lt_of_lt_mul (by rw [Nat.mul_comm]; exact hj)
        have hmj := Nat.mod_lt j hc0
        have hdj : j / z.length * z.length + j % z.length = j := by rw [Nat.mul_comm]; exact Nat.div_add_mod j z.length
        unfold cellAt
        rw [r2 _ (by omega)]
        by_cases hin : o / z.length ≤ j / z.length ∧ j / z.length < o / z.length + m
        · have l1 : o / z.length * z.length ≤ j / z.length * z.length := Nat.mul_le_mul_right _ hin.1
          have l2 : (j / z.length + 1) * z.length ≤ (o / z.length + m) * z.length := Nat.mul_le_mul_right _ hin.2
          rw [Nat.add_mul, Nat.add_mul, Nat.one_mul] at l2
          have l5 : j - o < m * z.length := by omega
          have l6 : j / z.length - o / z.length < 512 := Nat.lt_of_le_of_lt (Nat.sub_le _ _) (Nat.lt_of_lt_of_le hd hc2)
          rw [if_pos hin, if_pos (by omega), Nat.zero_add, r8_at _ _ l6, ← rowOf_up hz6 hone hmj row0, zeroCells_at (by rw [hvs]; exact l5), hvs, ← Array.getElem?_toList, hcz]
          congr 1
          have l3 : j - o = (j / z.length - o / z.length) * z.length + j % z.length := by rw [Nat.sub_mul]; omega
          rw [l3, Nat.mul_comm, Nat.mul_add_mod, Nat.mod_mod]
        · rw [if_neg hin, if_neg ?_]
          · exact hc.cell j hj
          · rintro ⟨l1, l2⟩
            apply hin
            refine ⟨Nat.div_le_div_right l1, ?_⟩
            rw [ho, ← Nat.add_mul] at l2
            exact Nat.div_lt_of_lt_mul (by rw [Nat.mul_comm]; exact l2)
theorem rDelete_ok {mt u kt e : TypeId} {x y : Operand} {args : Array Operand} {ts : Array TypeId} {a b' : Acc} {s : Option IntKind} (hargs : args.toList = [x, y]) (hts : ts.toList = [mt, u]) (hu : P.underlying mt = some (.map kt e)) (hs : keyB P kt = some s) (ha : AccOk n x a) (hb : AccOk n y b') (hk : okOp ⟨dst, .call ⟨.builtin .delete, args, ts⟩, ty, pos, after, guard⟩ = true) :
    LOk P B w0 n ⟨dst, .call ⟨.builtin .delete, args, ts⟩, ty, pos, after, guard⟩ (rDelete s a b') := by
  intro rec L F k t A hR h1 h2 hM h
  obtain ⟨key, h3, h4⟩ := valK_true h
  obtain ⟨hkt, h5⟩ := kindK_true h4
  have e2 : ev t y = key.up := (hb L t h1 h2).symm.trans (by rw [h3]; rfl)
  have hd := keyB_spec hs
  have fin : ∀ {A' : AW} {F' : FM}, deleteA P mt (ev t x) (ev t y) A = some A' → MR F' A' → k .nil F' = true → (match opA P (ev t) ⟨dst, .call ⟨.builtin .delete, args, ts⟩, ty, pos, after, guard⟩ A with
      | some (.val v, A') => Post k v A'
      | some (.skip, A') => Post k undef A'
      | some (.enter f args, A') => CallS P B w0 f args A' (Post k)
      | some (.round b tmps a c, A') => RoundW P B w0 b tmps a c A' (Post k)
      | none => NextK (ev t) ⟨dst, .call ⟨.builtin .delete, args, ts⟩, ty, pos, after, guard⟩ A (Post k)) := by
    intro A' F' hdel hM' hk'
    have hop : opA P (ev t) ⟨dst, .call ⟨.builtin .delete, args, ts⟩, ty, pos, after, guard⟩ A = some (.val (.tuple #[]), A') := by
      unfold opA
      rw [hk, cond_true]
      dsimp only
      rw [hargs, hts]
      dsimp only
      rw [hdel]
    rw [hop]
    exact ⟨.nil, F', rfl, hM', hk'⟩
  rcases mpK_true h5 with ⟨h6, h7⟩ | ⟨b, h6, h7⟩
  · have e1 : ev t x = .map none := (ha L t h1 h2).symm.trans h6
    refine fin ?_ hM h7
    unfold deleteA
    rw [hu]
    dsimp only
    rw [hd]
    dsimp only
    rw [e1, e2, hkt]
    rfl
  · have e1 : ev t x = .map (some b) := (ha L t h1 h2).symm.trans (by rw [h6]; rfl)
    obtain ⟨hb2, es, c, h8, h9⟩ := mapK_true h7
    obtain ⟨cs, q1, q2⟩ := hM.map hb2 h8
    have base : ∀ (X : Option AW), (match Instr.findNow (kd s) key.up (es.map upE) 0 with
            | some (some (i, _)) => some (A.put b (some ⟨.map (cs.eraseIdxIfInBounds i) c, false, false⟩))
            | some none => some (A.put b (some ⟨.map cs c, false, false⟩))
            | none => none) = X → deleteA P mt (ev t x) (ev t y) A = X := by
      intro X hX
      unfold deleteA
      rw [hu]
      dsimp only
      rw [hd]
      dsimp only
      rw [e1, e2, hkt, cond_true]
      dsimp only
      rw [q1]
      dsimp only
      rw [q2]
      exact hX
    rcases findF_true hkt es 0 h9 with ⟨g1, g2⟩ | ⟨j, e', g1, g2, g3, g4⟩
    · refine fin (base _ (by rw [g1])) (A' := A.put b (some ⟨.map cs c, false, false⟩)) (F' := F) ⟨hM.next, fun d hd2 => ?_⟩ g2
      rw [AW.put_at hb2]
      by_cases hq : d = b
      · rw [if_pos hq, hq, ← q1]; exact hM.blk b hb2
      · rw [if_neg hq]; exact hM.blk d hd2
    · have g5 := dropE_true _ _ g4
      have g6 := putF_true hb2 (show putF b _ F _ = true from g5)
      refine fin (base _ (by rw [g1])) (hM.putA hb2 (.map ?_)) g6
      have : (cs.eraseIdxIfInBounds (0 + j)).toList = cs.toList.eraseIdx (0 + j) := by simp
      rw [this, q2]
      exact (map_eraseIdx upE es (0 + j)).symm
end
end
end Go.Proofs.YtfeppmhcpfccfaaGreatDoor.Fast
/- A fast evaluator, part X: a strings.Builder's check, and its text, by what they are known to do. Of no program. -/
namespace Go.Proofs.YtfeppmhcpfccfaaGreatDoor.Fast
open Go Go.RowKit Go.Proofs.YtfeppmhcpfccfaaGreatDoor.Sim
noncomputable section
section
variable {P : Program} {B : Nat} {w0 : Base} {n : Nat} {gl : Nat → Bool} {dst : Option Tmp} {ty : TypeId} {pos : String} {after : Array Edge} {guard : Option (Nat × Bool)}
/-- a block that is another one, or is frozen, and is not looked at any more -/
theorem SR.lost {ρ : Ren} {A : AW} {w : World} (h : SR P B w0 ρ A w) {b : Nat} {x : ABk} {i : Info} (hx : A.heap.get b = some x) (hi : ρ b = some i) (hro : i.ro = false)
    {w' : World} (hos : w'.os = w.os) (htp : w'.tape = w.tape) (hout : w'.output = w.output) (hsz : w'.heap.size = w.heap.size) (hk : ∀ k, k ≠ i.g → w'.heap[k]? = w.heap[k]?) : SR P B w0 ρ (A.put b none) w' := by
  have hb : b < A.next := h.dom b i hi
  have hB : B ≤ i.g := by
    obtain ⟨hB, _⟩ := h.blk b x i hx hi
    rcases hB with hB | hB
    · rw [hro] at hB; cases hB
    · exact hB
  refine ⟨⟨hos.trans h.below.os, htp.trans h.below.tape, hout.trans h.below.output, by rw [hsz]; exact h.below.size, fun k hk' => (hk k (by omega)).trans (h.below.block k hk')⟩, h.low, h.dom, h.room, fun c z hz => ?_, fun c z hc => ⟨(h.off c z hc).1, by
    rw [put_get h.room hb, if_neg (by intro e; subst e; rw [(h.off c z hc).1] at hi; cases hi)]
    exact (h.off c z hc).2⟩, fun c z j hz hj => ?_, fun c d z z' j j' hz hz' hj hj' he => ?_, h.glo, ⟨h.marks.1, fun r hr => ?_⟩⟩
  · rw [put_get h.room hb] at hz
    split at hz
    · cases hz
    · exact h.lt c z hz
  · rw [put_get h.room hb] at hz
    split at hz
    · cases hz
    · rename_i hcb
      obtain ⟨hBj, o', hg, hor⟩ := h.blk c z j hz hj
      exact ⟨hBj, o', by rw [hk j.g (fun e => hcb (h.apart c b z x j i hz hx hj hi e))]; exact hg, hor⟩
  · rw [put_get h.room hb] at hz hz'
    split at hz
    · cases hz
    · split at hz'
      · cases hz'
      · exact h.apart c d z z' j j' hz hz' hj hj' he
  · obtain ⟨m1, m2, m3⟩ := h.marks.2 r hr
    refine ⟨m1, (hk r (fun e => m3 b x i hx hi e.symm)).trans m2, fun c z j hz hj => ?_⟩
    rw [put_get h.room hb] at hz
    split at hz
    · cases hz
    · exact m3 c z j hz hj
theorem SR.drew {ρ : Ren} {A : AW} {w : World} (hs : SR P B w0 ρ A w) : SR P B w0 ρ A w.drew :=
  ⟨hs.below.drew, hs.low, hs.dom, hs.room, hs.lt, hs.off, hs.blk, hs.apart, hs.glo, hs.marks⟩
theorem bldT_has {g m te : Nat} {nm : String} (h : bldT P g m nm = some te) : hasB P g = true := by
  unfold bldT at h
  unfold hasB
  cases hf : P.funcs[g]? with
  | none => rw [hf] at h; cases h
  | some fn =>
    rw [hf] at h
    dsimp only at h
    cases hq : (Nat.beq fn.ntmps m && (Nat.blt g yB && fn.body.isSome) && (fn.name == nm)) with
    | false => rw [hq] at h; cases h
    | true =>
      simp only [Bool.and_eq_true] at hq
      rw [hq.1.2.1, cond_true]
      exact hq.1.2.2
theorem not_true {b : Bool} (h : Bool.not b = true) : b = false := by cases b <;> first | rfl | cases h
theorem evs_one (t : Operand → Value) {args : Array Operand} {x : Operand} (h : args.toList = [x]) : #[] ++ evs t args ++ #[] = #[t x] := by
  have : args = #[x] := Array.toList_inj.1 h
  subst this
  simp [evs]
theorem args_ptr {ρ : Ren} {b o : Nat} {args' : Array Value} (h : AR ρ #[.pointer (some ⟨b, o, none⟩)] args') : ∃ i, ρ b = some i ∧ args' = #[.pointer (some ⟨i.g, o + i.sh, none⟩)] := by
  obtain ⟨v', g1, g2⟩ := h.at (j := 0) (v := .pointer (some ⟨b, o, none⟩)) rfl
  have h0 : args'.size = 1 := h.1.symm
  cases g2 with
  | ptr hi =>
    refine ⟨_, hi, Array.ext_getElem? fun j => ?_⟩
    by_cases hj : j = 0
    · subst hj; rw [g1]; rfl
    · rw [Array.getElem?_eq_none (by omega), Array.getElem?_eq_none (by simp; omega)]
theorem rCk_ok {g te : Nat} {args : Array Operand} {ts : Array TypeId} {x : Operand} {a : Acc} (hx : args.toList = [x]) (ha : AccOk n x a) (hg : ckT P g = some te) (hk : okOp ⟨dst, .call ⟨.value (.func g), args, ts⟩, ty, pos, after, guard⟩ = true) :
    LOk P B w0 n ⟨dst, .call ⟨.value (.func g), args, ts⟩, ty, pos, after, guard⟩ (rCk (liesB P te) a) := by
  intro rec L F k t A hR h1 h2 hM h
  obtain ⟨b, o, h3, h6⟩ := ptrK_true h
  obtain ⟨hb, rows, m, esz, e, fam, ro, h7, h8⟩ := blkK_true h6
  obtain ⟨q1, k1⟩ := ifK_true h8
  obtain ⟨q4, k4⟩ := ifK_true k1
  obtain ⟨q5, k5⟩ := ifK_true k4
  clear h8 k1 k4 h6 h
  have hoo : o + 1 < m * esz := blt_lt q1
  obtain rfl := not_true q4
  obtain rfl := not_true q5
  have h8 := k5
  clear k5
  obtain ⟨c, hc⟩ := hM.at hb h7
  have h11 : o < m * esz := by omega
  rw [wCell_get h11 hc.h0 hc.h1 hc.h2] at h8
  have e1 : ev t x = .pointer (some ⟨b, o, none⟩) := (ha L t h1 h2).symm.trans (by rw [h3]; rfl)
  rw [opA_call hk (show ev t (.func g) = .func (.func g) #[] #[] from rfl) (bldT_has hg)]
  dsimp only
  rw [evs_one _ hx, e1]
  have hcell := hc.cell o h11
  generalize hu : cellAt rows esz o = u at h8 hcell
  intro Γ M ρ w args' hs hargs
  obtain ⟨i, hi, rfl⟩ := args_ptr hargs
  have hsz : c.size = m * esz := hc.size
  cases u with
  | ptr b' o' =>
    obtain ⟨q6, h9⟩ := ifK_true (show ifK (Nat.beq b' b) (ifK (Nat.beq o' o) (k .nil F) bad) bad = true from h8)
    obtain ⟨q7, h12⟩ := ifK_true h9
    obtain rfl := beq_eq q6
    obtain rfl := beq_eq q7
    have hA : A.cell? ⟨b', o', none⟩ = some (.pointer (some ⟨b', o', none⟩)) := by
      unfold AW.cell?
      rw [hc.get]
      exact hcell
    obtain ⟨v', g1, g2⟩ := hs.cell hi hA
    have g3 : v' = .pointer (some ⟨i.g, o' + i.sh, none⟩) := by
      cases g2 with
      | ptr h10 => rw [hi] at h10; injection h10 with h10; rw [h10]
    subst g3
    refine (hR.1.used hg i.g (o' + i.sh) w g1).mono ?_
    rintro e w' ⟨rfl, rfl⟩
    exact ⟨ρ, .tuple #[], .tuple #[], A, rfl, ⟨.nil, F, rfl, hM, h12⟩, Ren.le_refl _, hs, VR.mkTuple (AR.empty ρ)⟩
  | val v =>
    have hv : v = .pointer none ∧ ifK (liesB P te e (Nat.mul m esz) o) ((wCell o esz).put (.ptr b o) rows (fun rows => putF b (.blk rows m esz e false false) F fun F => k .nil F)) bad = true := by
      have h8 : nilP v _ = true := h8
      unfold nilP at h8
      split at h8
      · exact ⟨rfl, h8⟩
      · exact not_bad h8
    obtain ⟨rfl, h9⟩ := hv
    obtain ⟨hlies, h9⟩ := ifK_true h9
    rw [wCell_put h11 hc.h0 hc.h1 hc.h2] at h9
    have h13 := putF_true hb h9
    obtain ⟨hB, o', hg', hor⟩ := hs.blk b _ i hc.get hi
    cases hor with
    | exact r1 r2 r3 r4 r5 =>
      rename_i c' f'
      subst r4
      rw [r5]
      have hc0 : c'[o]? = some (.pointer none) := by
        obtain ⟨v', g1, g2⟩ := r3.at hcell
        rw [g1]
        cases g2
        rfl
      refine (hR.1.fresh hg i.g o w c' e hg' (by rw [← r3.1, hsz]; exact hlies) hc0).mono ?_
      rintro e2 w' ⟨rfl, rfl⟩
      have hlt : i.g < w.heap.size := (Array.getElem?_eq_some_iff.1 hg').1
      refine ⟨ρ, .tuple #[], .tuple #[], A.put b (some ⟨.cells (c.setIfInBounds o (.pointer (some ⟨b, o, none⟩))) e (0, 0), false, false⟩), rfl, ⟨.nil, _, rfl, hM.putA hb ?_, h13⟩, Ren.le_refl _, ?_, VR.mkTuple (AR.empty ρ)⟩
      · refine .blk hc.h0 hc.h1 hc.h2 (by rw [Array.size_setIfInBounds]; exact hc.size) fun j hj => ?_
        rw [cell_set h11 hc.h0 hc.h1 hc.h2 _ _ hj, Array.getElem?_setIfInBounds]
        by_cases hj0 : j = o
        · subst hj0
          rw [if_pos rfl, if_pos rfl, if_pos (by rw [hsz]; exact h11)]
          rfl
        · rw [if_neg (fun e => hj0 e.symm), if_neg hj0]
          exact hc.cell j hj
      · refine hs.change hc.get hi r1 (.exact r1 r2 (r3.set o (by have := VR.ptr (o := o) hi; rw [r5] at this; exact this)) rfl r5) rfl rfl rfl ?_ ?_ ?_
        · simp [World.setCell]
        · simp [World.setCell, Array.getElem?_modify, hg']
        · intro k hk
          simp [World.setCell, Array.getElem?_modify, Ne.symm hk]
  | _ => exact not_bad h8
theorem bytesK_true {rows : Rows} {n2 : Nat} (h2 : n2 ≤ 512) : ∀ (m i j z : Nat) {k : Nat → R}, i + m ≤ n2 → z < 2 ^ j → bytesK rows m i j z k = true →
    ∃ l : List Nat, l.length = m ∧ (∀ p x, l[p]? = some x → cellAt rows 1 (i + p) = .int .u8 (Int.ofNat x) ∧ x < 256) ∧ k (z + (l.foldr (fun x r => x + 256 * r) 0) * 2 ^ j) = true
  | 0, i, j, z, k, _, _, h => ⟨[], rfl, fun p x hp => by simp at hp, by show k (z + 0 * 2 ^ j) = true; rw [Nat.zero_mul, Nat.add_zero]; exact h⟩
  | m + 1, i, j, z, k, hi, hz, h => by
    have h : intV ((wCell i 1).get rows) (fun q c => natV c fun c => ifK (Nat.beq (kix q) (kix .u8)) (ifK (Nat.blt c 256) (num (Nat.add z (Nat.mul c (Nat.pow 2 j))) fun z => num (Nat.succ i) fun i => num (Nat.add j 8) fun j => bytesK rows m i j z k) bad) bad) = true := h
    rw [wCell_get (n := n2) (by omega) (by decide) (by decide) h2] at h
    generalize hu : cellAt rows 1 i = u at h
    cases u with
    | int q c =>
      obtain ⟨c, rfl, ha⟩ := natV_true (show natV c _ = true from h)
      obtain ⟨q1, hb⟩ := ifK_true ha
      obtain ⟨q2, hd⟩ := ifK_true hb
      clear h ha hb
      have q3 : q = .u8 := by revert q1; cases q <;> decide
      subst q3
      have hc : c < 256 := blt_lt q2
      have hp8 : 2 ^ (j + 8) = 256 * 2 ^ j := by rw [Nat.pow_add]; omega
      have hz' : z + c * 2 ^ j < 2 ^ (j + 8) := by
        rw [hp8]
        have : (c + 1) * 2 ^ j ≤ 256 * 2 ^ j := Nat.mul_le_mul_right _ hc
        rw [Nat.add_mul] at this
        omega
      obtain ⟨l, g1, g2, g3⟩ := bytesK_true h2 m (i + 1) (j + 8) (z + c * 2 ^ j) (k := k) (by omega) hz' hd
      refine ⟨c :: l, by simp [g1], fun p x hp => ?_, ?_⟩
      · cases p with
        | zero =>
          have : c = x := by simpa using hp
          subst this
          exact ⟨hu, hc⟩
        | succ p =>
          have := g2 p x (by simpa using hp)
          rwa [show i + 1 + p = i + (p + 1) by omega] at this
      · have e : z + c * 2 ^ j + (l.foldr (fun x r => x + 256 * r) 0) * 2 ^ (j + 8) = z + ((c :: l).foldr (fun x r => x + 256 * r) 0) * 2 ^ j := by
          rw [List.foldr_cons, hp8, Nat.add_mul, Nat.mul_comm 256 (List.foldr _ _ _), Nat.mul_assoc]
          omega
        rw [← e]; exact g3
    | _ => exact not_bad h
theorem foldr_at : ∀ (l : List Nat), (∀ x ∈ l, x < 256) → ∀ p, ((l.foldr (fun x r => x + 256 * r) 0) >>> (8 * p)) % 256 = l.getD p 0
  | [], _, p => by simp
  | c :: l, h, 0 => by
    have := h c (by simp)
    simp only [List.foldr_cons, Nat.mul_zero, Nat.shiftRight_zero, List.getD_cons_zero]
    omega
  | c :: l, h, p + 1 => by
    have hc := h c (by simp)
    rw [List.getD_cons_succ, ← foldr_at l (fun x hx => h x (by simp [hx])) p, List.foldr_cons, show 8 * (p + 1) = 8 + 8 * p by omega, Nat.shiftRight_add]
    congr 2
    rw [Nat.shiftRight_eq_div_pow]
    omega
theorem bytesOf_foldr (l : List Nat) (h : ∀ x ∈ l, x < 256) : bytesOf l.length (l.foldr (fun x r => x + 256 * r) 0) = ⟨(l.map UInt8.ofNat).toArray⟩ := by
  unfold bytesOf
  congr 1
  apply Array.toList_inj.1
  apply List.ext_getElem?
  intro p
  simp only [List.getElem?_map]
  by_cases hp : p < l.length
  · rw [List.getElem?_range hp, List.getElem?_eq_getElem hp]
    simp only [Option.map_some, Option.some.injEq]
    apply UInt8.toNat_inj.1
    have h2 := foldr_at l h p
    rw [List.getD_eq_getElem?_getD, List.getElem?_eq_getElem hp] at h2
    have h3 := h l[p] (List.getElem_mem hp)
    show (Nat.shiftRight _ _) % 256 = l[p] % 256
    rw [Nat.mod_eq_of_lt h3]
    exact h2
  · rw [List.getElem?_eq_none (by simp; omega), List.getElem?_eq_none (by omega)]
    rfl
theorem nilK_slc {x : FV} {k0 : Nat → Nat → R} {k : Nat → Nat → Nat → Nat → R} (h : slcV x k0 k = true) : (∃ n c, x = .nilS n c ∧ k0 n c = true) ∨ ∃ b o n c, x = .slc b o n c ∧ k b o n c = true := by
  cases x <;> first | exact .inl ⟨_, _, rfl, h⟩ | exact .inr ⟨_, _, _, _, rfl, h⟩ | exact not_bad h
theorem rTk_ok {g te tb : Nat} {args : Array Operand} {ts : Array TypeId} {x : Operand} {a : Acc} (hx : args.toList = [x]) (ha : AccOk n x a) (hg : tkT P g = some te) (hgb : byteT P te = some tb) (hk : okOp ⟨dst, .call ⟨.value (.func g), args, ts⟩, ty, pos, after, guard⟩ = true) :
    LOk P B w0 n ⟨dst, .call ⟨.value (.func g), args, ts⟩, ty, pos, after, guard⟩ (rTk tb a) := by
  intro rec L F k t A hR h1 h2 hM h
  obtain ⟨b, o, h3, h6⟩ := ptrK_true h
  obtain ⟨hb, rows, m, esz, e, fam, ro, h7, h8⟩ := blkK_true h6
  obtain ⟨q1, k1⟩ := ifK_true h8
  obtain ⟨q4, k4⟩ := ifK_true k1
  obtain ⟨q5, k5⟩ := ifK_true k4
  clear h8 k1 k4 h6 h
  have h11 : o + 1 < m * esz := blt_lt q1
  obtain rfl := not_true q4
  obtain rfl := not_true q5
  obtain ⟨c, hc⟩ := hM.at hb h7
  rw [wCell_get h11 hc.h0 hc.h1 hc.h2] at k5
  have e1 : ev t x = .pointer (some ⟨b, o, none⟩) := (ha L t h1 h2).symm.trans (by rw [h3]; rfl)
  rw [opA_call hk (show ev t (.func g) = .func (.func g) #[] #[] from rfl) (bldT_has hg)]
  dsimp only
  rw [evs_one _ hx, e1]
  have hcell := hc.cell (o + 1) h11
  generalize hu : cellAt rows esz (o + 1) = u at k5 hcell
  intro Γ M ρ w args' hs hargs
  obtain ⟨i, hi, rfl⟩ := args_ptr hargs
  have hA : A.cell? ⟨b, o + 1, none⟩ = some u.up := by
    unfold AW.cell?
    rw [hc.get]
    exact hcell
  obtain ⟨v', g1, g2⟩ := hs.cell hi hA
  rcases nilK_slc k5 with ⟨m, cp, rfl, r1⟩ | ⟨d, o2, m, cp, rfl, r1⟩
  · obtain ⟨r2, r3⟩ := ifK_true r1
    obtain ⟨r4, r5⟩ := ifK_true r3
    obtain rfl := beq_eq r2
    obtain rfl := beq_eq r4
    have g3 : v' = .slice none 0 0 := by cases g2; rfl
    subst g3
    refine (hR.1.textNil hg i.g (o + i.sh) w (by rw [show o + i.sh + 1 = o + 1 + i.sh by omega]; exact g1)).mono ?_
    rintro e w' ⟨rfl, rfl⟩
    refine ⟨ρ, .string (bytesOf 0 0), .string (bytesOf 0 0), A, rfl, ⟨.val (.str 0 0), F, rfl, hM, r5⟩, Ren.le_refl _, ?_, .string _⟩
    exact SR.drew hs
  · obtain ⟨r2, r3⟩ := ifK_true r1
    obtain ⟨r4, r5⟩ := ifK_true r3
    obtain ⟨r6, r7⟩ := ifK_true r5
    obtain rfl := beq_eq r4
    have hm0 : 0 < m := blt_lt r2
    have hmc : m ≤ cp := Nat.le_of_ble_eq_true r6
    obtain ⟨hd, rows2, n2, esz2, e2, fam2, ro2, r8, r9⟩ := blkK_true r7
    obtain ⟨s1, t1⟩ := ifK_true r9
    obtain ⟨s2, t2⟩ := ifK_true t1
    obtain ⟨s3, t3⟩ := ifK_true t2
    obtain ⟨s4, t4⟩ := ifK_true t3
    clear r1 r3 r5 r7 r9 t1 t2 t3
    obtain rfl := beq_eq s1
    obtain rfl : tb = e2 := (beq_eq s2).symm
    obtain rfl := not_true s3
    obtain ⟨cd, hcd⟩ := hM.at hd r8
    obtain ⟨l, l1, l2, l3⟩ := bytesK_true hcd.h2 m 0 0 0 (by rw [Nat.zero_add]; exact Nat.le_of_ble_eq_true s4) (by decide) t4
    rw [Nat.pow_zero, Nat.mul_one, Nat.zero_add] at l3
    have l4 : ∀ x ∈ l, x < 256 := fun x hx => by
      obtain ⟨p, hp⟩ := List.getElem?_of_mem hx
      exact (l2 p x hp).2
    have hbytes := bytesOf_foldr l l4
    rw [l1] at hbytes
    generalize hz : l.foldr (fun x r => x + 256 * r) 0 = z at l3 hbytes
    have h13 := putF_true hd l3
    have hbyte : byteE P tb = true := by
      unfold byteT at hgb
      split at hgb
      · split at hgb
        · split at hgb
          · rename_i tb' _
            cases hq : byteE P tb' with
            | false => rw [hq] at hgb; cases hgb
            | true => rw [hq, cond_true] at hgb; injection hgb with hgb; rw [← hgb]; exact hq
          · cases hgb
        · cases hgb
      · cases hgb
    have hcap : ∃ (j : Info) (c' : Nat), ρ d = some j ∧ v' = .slice (some ⟨j.g, 0 + j.sh, none⟩) m c' ∧ m ≤ c' := by
      cases g2 with
      | slice h10 h12 =>
        refine ⟨_, _, h10, rfl, ?_⟩
        rcases h12 with ⟨_, h14⟩ | ⟨_, h14, _⟩ <;> omega
      | edge => exact absurd hm0 (Nat.lt_irrefl 0)
    obtain ⟨j, c', hj, rfl, hmc'⟩ := hcap
    obtain ⟨hBj, o', hgd, hor⟩ := hs.blk d _ j hcd.get hj
    have hcur : ∃ cur, o' = .cells cur tb (0, 0) ∧ j.ro = false ∧ j.sh = 0 ∧ ∀ (p : Nat) (v : Value), cd[p]? = some v → ∃ v', cur[p]? = some v' ∧ VR ρ v v' := by
      cases hor with
      | exact p1 p2 p3 p4 p5 => subst p4; exact ⟨_, rfl, p1, p5, fun p v hv => p3.at hv⟩
      | loose p1 p2 p3 p4 p5 p6 p7 p8 =>
        have h0 : j.sh = 0 := by
          rcases p8 with p8 | p8
          · exact p8
          · rw [hbyte] at p8; cases p8
        obtain rfl := p6 rfl
        rw [h0] at p5
        exact ⟨_, rfl, p1, h0, p5⟩
    obtain ⟨cur, rfl, hro, hsh0, hrel⟩ := hcur
    rw [hsh0] at g1
    have hlen : (l.map UInt8.ofNat).length = m := by rw [List.length_map, l1]
    have hcells : ∀ (p : Nat) (x : UInt8), (l.map UInt8.ofNat)[p]? = some x → cur[p]? = some (.int .u8 x.toNat) := by
      intro p x hp
      rw [List.getElem?_map] at hp
      cases hy : l[p]? with
      | none => rw [hy] at hp; cases hp
      | some y =>
        rw [hy] at hp
        injection hp with hp; subst hp
        obtain ⟨q1, q2⟩ := l2 p y hy
        rw [Nat.zero_add] at q1
        have hpl : p < m := by rw [← l1]; exact (List.getElem?_eq_some_iff.1 hy).1
        have hpc := hcd.cell p (by have := Nat.le_of_ble_eq_true s4; omega)
        rw [q1] at hpc
        obtain ⟨v', q3, q4⟩ := hrel p _ hpc
        rw [q3]
        cases q4
        have : (UInt8.ofNat y).toNat = y := by simp; omega
        rw [this]
        rfl
    have hm1 : m ≤ 1000000 := by have := Nat.le_of_ble_eq_true s4; have := hcd.h2; omega
    refine (hR.1.text hg hgb i.g (o + i.sh) j.g c' w cur (l.map UInt8.ofNat) (by rw [hlen, show o + i.sh + 1 = o + 1 + i.sh by omega]; exact g1) hgd (by intro e; rw [e] at hlen; simp at hlen; omega) (by rw [hlen]; exact hmc') (by rw [hlen]; exact hm1) hcells).mono ?_
    rintro e w' ⟨rfl, rfl⟩
    rw [hlen]
    have hfr : (w.drew.freeze ⟨j.g, 0, none⟩ m).heap.size = w.heap.size ∧ (w.drew.freeze ⟨j.g, 0, none⟩ m).os = w.os ∧ (w.drew.freeze ⟨j.g, 0, none⟩ m).tape = w.tape ∧ (w.drew.freeze ⟨j.g, 0, none⟩ m).output = w.output ∧ ∀ k, k ≠ j.g → (w.drew.freeze ⟨j.g, 0, none⟩ m).heap[k]? = w.heap[k]? := by
      unfold World.freeze
      rw [if_neg (by omega)]
      refine ⟨(Array.size_modify ..).trans rfl, rfl, rfl, rfl, fun k hk => ?_⟩
      show (Array.modify w.heap j.g _)[k]? = _
      rw [Array.getElem?_modify, if_neg (Ne.symm hk)]
    refine ⟨ρ, .string (bytesOf m z), .string ⟨(l.map UInt8.ofNat).toArray⟩, A.put d none, rfl, ⟨.val (.str m z), _, rfl, hM.putA hd (.no _), h13⟩, Ren.le_refl _, SR.lost hs hcd.get hj hro hfr.2.1 hfr.2.2.1 hfr.2.2.2.1 hfr.1 hfr.2.2.2.2, ?_⟩
    rw [hbytes]
    exact .string _
theorem bldD_ok {g : FuncId} {args : Array Operand} {ts : Array TypeId} {d : OpD} (h : bldD gl P n g args.toList = some d) (hk : okOp ⟨dst, .call ⟨.value (.func g), args, ts⟩, ty, pos, after, guard⟩ = true) :
    LOk P B w0 n ⟨dst, .call ⟨.value (.func g), args, ts⟩, ty, pos, after, guard⟩ d.get := by
  unfold bldD at h
  split at h
  rotate_left
  · cases h
  rename_i l x hx
  cases hax : accOf gl n x with
  | none => rw [hax] at h; cases h
  | some a =>
    rw [hax] at h
    dsimp only at h
    cases hck : ckT P g with
    | some te =>
      rw [hck] at h
      injection h with h; subst h
      exact rCk_ok hx (accOf_ok hax) hck hk
    | none =>
      rw [hck] at h
      dsimp only at h
      cases htk : tkT P g with
      | none => rw [htk] at h; cases h
      | some te =>
        rw [htk] at h
        dsimp only at h
        cases hbt : byteT P te with
        | none => rw [hbt] at h; cases h
        | some tb =>
          rw [hbt] at h
          injection h with h; subst h
          exact rTk_ok hx (accOf_ok hax) htk hbt hk
theorem byteR_true : ∀ (m i z : Nat) (r : Rows) {k : Rows → R}, i + m ≤ 512 → byteR m i z r k = true →
    ∃ r', k r' = true ∧ (∀ j, j < i → cellAt r' 1 j = cellAt r 1 j) ∧ ∀ j, j < m → cellAt r' 1 (i + j) = .int .u8 (Int.ofNat ((z >>> (8 * j)) % 256))
  | 0, i, z, r, k, _, h => ⟨r, h, fun _ _ => rfl, fun j hj => absurd hj (Nat.not_lt_zero j)⟩
  | m + 1, i, z, r, k, hm, h => by
    have h : (wCell i 1).put (.int .u8 (Int.ofNat (Nat.mod z 256))) r (fun r => byteR m (i + 1) (Nat.div z 256) r k) = true := h
    have h1 : i < 512 * 1 := by omega
    rw [wCell_put (n := 512) h1 (by decide) (by decide) (Nat.le_refl _)] at h
    obtain ⟨r', g1, g2, g3⟩ := byteR_true m (i + 1) (Nat.div z 256) _ (by omega) h
    refine ⟨r', g1, fun j hj => ?_, fun j hj => ?_⟩
    · rw [g2 j (by omega), cell_set (n := 512) h1 (by decide) (by decide) (Nat.le_refl _) _ _ (by omega), if_neg (by omega)]
    · cases j with
      | zero =>
        rw [Nat.add_zero, g2 i (by omega), cell_set (n := 512) h1 (by decide) (by decide) (Nat.le_refl _) _ _ (by omega), if_pos rfl, Nat.mul_zero, Nat.shiftRight_zero]
        rfl
      | succ j =>
        have h2 := g3 j (by omega)
        rw [show i + (j + 1) = i + 1 + j by omega, h2, show 8 * (j + 1) = 8 + 8 * j by omega, Nat.shiftRight_add, Nat.shiftRight_eq_div_pow z 8]
        rfl
theorem rBytes_ok {srcT dstT e : TypeId} {x : Operand} {a : Acc} {i : TypeInfo} (hs : P.underlying srcT = some .string) (hd : P.underlying dstT = some (.slice e)) (he : P.underlying e = some (.int .u8)) (hi : P.info? e = some i) (h1 : Nat.beq i.size 1 = true) (ha : AccOk n x a)
    (hk : okOp ⟨dst, .convert srcT dstT x, ty, pos, after, guard⟩ = true) : LOk P B w0 n ⟨dst, .convert srcT dstT x, ty, pos, after, guard⟩ (rBytes e a) := by
  intro rec L F k t A hR h1' h2 hM h
  obtain ⟨m, z, h3, h4⟩ := strK_true h
  obtain ⟨h5, h6⟩ := ifK_true h4
  have h5 := Nat.le_of_ble_eq_true h5
  obtain ⟨r', g1, _, g3⟩ := byteR_true m 0 z rows0 (by omega) h6
  obtain ⟨g4, g5⟩ := newF_true g1
  have e1 : ev t x = .string (bytesOf m z) := (ha L t h1' h2).symm.trans (by rw [h3]; rfl)
  have hsz : (bytesOf m z).size = m := by simp [bytesOf, ByteArray.size]
  have hsz2 : (bytesOf m z).data.size = m := hsz
  have hop : opA P (ev t) ⟨dst, .convert srcT dstT x, ty, pos, after, guard⟩ A = some (.val (.slice (some ⟨A.next, 0, none⟩) m m), A.add ⟨.cells ((bytesOf m z).data.map fun b => .int .u8 b.toNat) e (0, 0), true, true⟩) := by
    unfold opA
    rw [hk, cond_true]
    dsimp only
    have hc : convA P srcT dstT (ev t x) A = some (.slice (some ⟨A.next, 0, none⟩) m m, A.add ⟨.cells ((bytesOf m z).data.map fun b => .int .u8 b.toNat) e (0, 0), true, true⟩) := by
      unfold convA
      rw [hs, hd]
      dsimp only
      rw [e1, he, hi]
      dsimp only
      rw [h1, hM.room g4, hsz]
      rfl
    rw [hc]
    rfl
  rw [hop]
  refine ⟨.val (.slc F.next 0 m m), _, ?_, hM.add g4 (.blk (by decide) (by decide) h5 ?_ fun j hj => ?_), g5⟩
  · rw [hM.next]; rfl
  · rw [Array.size_map, hsz2, Nat.mul_one]
  · have hj' : j < m := by omega
    have := g3 j hj'
    rw [Nat.zero_add] at this
    rw [this, Array.getElem?_map, Array.getElem?_eq_getElem (by omega)]
    have hb : (bytesOf m z).data[j]'(by omega) = UInt8.ofNat (Nat.shiftRight z (8 * j)) := by
      simp [bytesOf]
    rw [hb]
    show some (Value.int .u8 ((UInt8.ofNat (Nat.shiftRight z (8 * j))).toNat : Int)) = some (.int .u8 (Int.ofNat ((z >>> (8 * j)) % 256)))
    have h256 : (UInt8.ofNat (Nat.shiftRight z (8 * j))).toNat = (z >>> (8 * j)) % 256 := by
      simp
    rw [h256]
    rfl
theorem rAppStr_ok {s u e : TypeId} {x y : Operand} {a a' : Acc} {args : Array Operand} {ts : Array TypeId} {it : TypeInfo} {z : Value} (hargs : args.toList = [x, y]) (hts : ts.toList = [s, u]) (hsu : Nat.beq s u = false) (hu : P.underlying s = some (.slice e)) (hus : P.underlying u = some .string) (hi : P.info? e = some it) (hz : it.zero = some z) (hzs : z.cells.size = it.size) (h11 : Nat.beq it.size 1 = true)
    (ha : AccOk n x a) (hb : AccOk n y a') (hk : okOp ⟨dst, .call ⟨.builtin .append, args, ts⟩, ty, pos, after, guard⟩ = true) : LOk P B w0 n ⟨dst, .call ⟨.builtin .append, args, ts⟩, ty, pos, after, guard⟩ (rAppStr (!byteE P e) e it.bytes a a') := by
  have hs1 : it.size = 1 := beq_eq h11
  intro rec L F k t A hR h1 h2 hM h
  have hopA : opA P (ev t) ⟨dst, .call ⟨.builtin .append, args, ts⟩, ty, pos, after, guard⟩ A = valA (appendA P ts (ev t x) (ev t y) A) := by
    unfold opA
    rw [hk, cond_true]
    dsimp only
    rw [hargs]
  have goal : ∀ {v A'}, appendA P ts (ev t x) (ev t y) A = some (v, A') → Post k v A' → (match opA P (ev t) ⟨dst, .call ⟨.builtin .append, args, ts⟩, ty, pos, after, guard⟩ A with
      | some (.val v, A') => Post k v A'
      | some (.skip, A') => Post k undef A'
      | some (.enter f args, A') => CallS P B w0 f args A' (Post k)
      | some (.round b tmps a c, A') => RoundW P B w0 b tmps a c A' (Post k)
      | none => NextK (ev t) ⟨dst, .call ⟨.builtin .append, args, ts⟩, ty, pos, after, guard⟩ A (Post k)) := by
    intro v A' he hp
    rw [hopA, he]
    exact hp
  obtain ⟨m, zz, h3, h4⟩ := strK_true h
  have e2 : ev t y = .string (bytesOf m zz) := (hb L t h1 h2).symm.trans (by rw [h3]; rfl)
  have hsz : (bytesOf m zz).size = m := by simp [bytesOf, ByteArray.size]
  have happ : ∀ {sb m' c}, ev t x = .slice sb m' c → appendA P ts (ev t x) (ev t y) A = (bif Nat.beq m 0 then (bif Nat.ble m' c then some (Value.slice sb m' c, A) else none) else
          bif Nat.beq it.size 1 && Nat.beq z.cells.size it.size && Nat.ble ((m' + m) * it.bytes) 1099511627776 && Nat.ble (m' + m) 1099511627776 then appendB (!byteE P e) e it (.slice sb m' c) m (Lib.strCells (bytesOf m zz)) A else none) := by
    intro sb m' c e1
    unfold appendA
    rw [hts]
    dsimp only
    rw [hsu, cond_false, e1, e2, hu, hus]
    dsimp only
    rw [hi]
    dsimp only
    rw [hz]
    dsimp only
    rw [hsz]
  cases hq : Nat.beq m 0 with
  | true =>
    rw [hq] at h4
    obtain ⟨sb, m', c, g1, g2, g3⟩ := keepS_true (show keepS (a L) F k = true from h4)
    have e1 : ev t x = .slice sb m' c := (ha L t h1 h2).symm.trans g1
    exact goal (by rw [happ e1, hq, g2]; rfl) ⟨_, F, g1, hM, g3⟩
  | false =>
    rw [hq] at h4
    obtain ⟨h5, h6⟩ := ifK_true (show ifK (Nat.ble m 512) _ bad = true from h4)
    have h5 := Nat.le_of_ble_eq_true h5
    obtain ⟨r', g1, _, g3⟩ := byteR_true m 0 zz rows0 (by omega) h6
    have hcells : Lib.strCells (bytesOf m zz) = cellsL r' 1 0 (m * 1) := by
      apply List.ext_getElem?
      intro j
      rw [cellsL_get, Nat.mul_one]
      by_cases hj : j < m
      · have := g3 j hj
        rw [Nat.zero_add] at this
        rw [if_pos hj, Nat.zero_add, this]
        have hb : (bytesOf m zz).data.toList[j]? = some (UInt8.ofNat (Nat.shiftRight zz (8 * j))) := by
          simp [bytesOf, List.getElem?_range hj]
        rw [Lib.strCells, List.getElem?_map, hb]
        show some (Value.int .u8 ((UInt8.ofNat (Nat.shiftRight zz (8 * j))).toNat : Int)) = some (.int .u8 (Int.ofNat ((zz >>> (8 * j)) % 256)))
        have h256 : (UInt8.ofNat (Nat.shiftRight zz (8 * j))).toNat = (zz >>> (8 * j)) % 256 := by
          simp
        rw [h256]
        rfl
      · rw [if_neg hj]
        exact List.getElem?_eq_none (by rw [Lib.strCells_length, hsz]; omega)
    have g1' : appT (!byteE P e) e it.size it.bytes m 0 r' (a L) F k = true := by rw [hs1]; exact g1
    refine appT_ok (e := e) (X := appendA P ts (ev t x) (ev t y) A) (z := z) (o2 := 0) (n2 := m) hzs (by omega) (by omega) ha h1 h2 hM h5 (by omega) (Nat.zero_mul _) (fun {sb m' c} e1 hcond => ?_) goal g1'
    have hcond' : (Nat.beq it.size 1 && Nat.beq z.cells.size it.size && Nat.ble ((m' + m) * it.bytes) 1099511627776 && Nat.ble (m' + m) 1099511627776) = true := by
      simp only [Bool.and_eq_true] at hcond ⊢
      exact ⟨⟨⟨h11, hcond.1.1.1⟩, hcond.1.2⟩, hcond.2⟩
    rw [happ e1, hq, cond_false, hcond', cond_true, hcells, hs1]
theorem rAppMk_ok {s u e : TypeId} {uk : IntKind} {x y : Operand} {a b' : Acc} {args : Array Operand} {ts : Array TypeId} {it : TypeInfo} {z : List Value} (hargs : args.toList = [x, y]) (hts : ts.toList = [s, u]) (hsu : Nat.beq s u = false) (hu : P.underlying s = some (.slice e)) (hus : P.underlying u = some (.int uk)) (hz : zeroB P e = some z) (hi : P.info? e = some it) (h64 : z.length ≤ 64)
    (ha : AccOk n x a) (hb : AccOk n y b') (hk : okOp ⟨dst, .call ⟨.builtin .append, args, ts⟩, ty, pos, after, guard⟩ = true) : LOk P B w0 n ⟨dst, .call ⟨.builtin .append, args, ts⟩, ty, pos, after, guard⟩ (rAppMk (rowOf z 0 row0) z.length it.bytes e a b') := by
  intro rec L F k t A hR h1 h2 hM h
  obtain ⟨it2, v, hi', hv, hcz, hcs, hpos, hzl, hsz, hone⟩ := zeroB_spec hz
  rw [hi] at hi'; injection hi' with hi'; subst hi'
  have h0 : 0 < z.length := by omega
  have hopA : opA P (ev t) ⟨dst, .call ⟨.builtin .append, args, ts⟩, ty, pos, after, guard⟩ A = valA (appendA P ts (ev t x) (ev t y) A) := by
    unfold opA
    rw [hk, cond_true]
    dsimp only
    rw [hargs]
  rcases slcK_true h with ⟨nn, cc, h3, h4⟩ | ⟨_, _, _, _, _, h4⟩
  rotate_left
  · exact not_bad h4
  obtain ⟨g1, h5⟩ := ifK_true h4
  rw [Bool.and_eq_true] at g1
  have hn0 := beq_eq g1.1
  have hc0 := beq_eq g1.2
  subst hn0 hc0
  obtain ⟨ki, zi, h6, h7⟩ := intK_true h5
  obtain ⟨m, rfl, h8⟩ := natV_true h7
  obtain ⟨h9, h10⟩ := ifK_true h8
  rw [Bool.and_eq_true, Bool.and_eq_true] at h9
  obtain ⟨⟨r1, r2⟩, r3⟩ := h9
  have r1' : 0 < m := blt_lt r1
  have r2' : m ≤ 512 := Nat.le_of_ble_eq_true r2
  obtain ⟨h11, h12⟩ := newF_true h10
  have e1 : ev t x = .slice none 0 0 := (ha L t h1 h2).symm.trans (by rw [h3]; rfl)
  have e2 : ev t y = .int ki (Int.ofNat m) := (hb L t h1 h2).symm.trans (by rw [h6]; rfl)
  have hr := hM.room h11
  have hcsz : v.cells.size = it.size := by rw [hcs]
  have happ : appendA P ts (ev t x) (ev t y) A = some (.slice (some ⟨A.next, 0, none⟩) m m, A.add ⟨.cells (madeCells v.cells (m * it.size)) e (0, 0), true, false⟩) := by
    unfold appendA
    rw [hts]
    dsimp only
    rw [hsu, cond_false, e1, e2, hu, hus]
    dsimp only
    rw [hi]
    dsimp only
    rw [hv]
    dsimp only
    have hq : (Nat.beq 0 0 && Nat.beq 0 0 && Nat.beq v.cells.size it.size && Nat.blt 0 it.size && decide ((0 : Int) < Int.ofNat m) && decide (Int.ofNat m ≤ 512) && Nat.ble ((Int.ofNat m).toNat * it.bytes) 1099511627776) = true := by
      simp only [Bool.and_eq_true, decide_eq_true_eq]
      refine ⟨⟨⟨⟨⟨⟨rfl, rfl⟩, Tr.beq_iff.2 hcsz⟩, Nat.ble_eq_true_of_le (by omega)⟩, ?_⟩, ?_⟩, r3⟩
      · simp only [Int.ofNat_eq_natCast]; omega
      · simp only [Int.ofNat_eq_natCast]; omega
    rw [hq, cond_true]
    unfold growA
    rw [hr, cond_true, Array.toArray_toList]
    rfl
  rw [hopA, happ]
  refine ⟨_, _, ?_, hM.add h11 (.blk (rows := r8 (r8 (r8 (rowOf z 0 row0)))) (n := m) (esz := z.length) h0 h64 r2' (by rw [size_madeCells, hzl]) fun j hj => ?_), h12⟩
  · rw [hM.next]
    rfl
  · rw [hzl] at hj
    have hm : j % z.length < z.length := Nat.mod_lt _ h0
    unfold cellAt
    have hd : j / z.length < m := Nat.div_lt_of_lt_mul (by rw [hzl, Nat.mul_comm]; exact hj)
    unfold madeCells
    rw [r8_at _ _ (by omega), ← rowOf_up h64 hone hm row0, Array.getElem?_map, Array.getElem?_range, if_pos hj, Option.map_some, ← hcz, Array.getElem?_toList]
    have e1 : v.cells.size = z.length := by rw [hcs, hzl]
    rw [hcz, e1, getElem!_pos v.cells _ (by omega), ← Array.getElem?_eq_getElem]
theorem rClone_ok {g : FuncId} {args : Array Operand} {ts : Array TypeId} {x : Operand} {a : Acc} (hx : args.toList = [x]) (ha : AccOk n x a) (hg : cloneT P g = true) (hk : okOp ⟨dst, .call ⟨.value (.func g), args, ts⟩, ty, pos, after, guard⟩ = true) :
    LOk P B w0 n ⟨dst, .call ⟨.value (.func g), args, ts⟩, ty, pos, after, guard⟩ (rClone a) := by
  intro rec L F k t A hR h1 h2 hM h
  obtain ⟨v, h3, h4⟩ := valK_true h
  cases v with
  | val u =>
    have h4 : ifM u (fun tt b => mapK b F fun es c => newF (.map es c) F fun b F => num tt fun tt => k (.val (.val (.iface tt (.map (some b))))) F) = true := h4
    unfold ifM at h4
    split at h4
    rotate_left
    · exact not_bad h4
    rename_i tt b _
    obtain ⟨hb, es, c, h5, h6⟩ := mapK_true h4
    obtain ⟨h7, h8⟩ := newF_true h6
    obtain ⟨cs, h9, h10⟩ := hM.map hb h5
    have e1 : ev t x = .iface tt (.map (some b)) := (ha L t h1 h2).symm.trans (by rw [h3]; rfl)
    unfold cloneT at hg
    cases hf : P.funcs[g]? with
    | none => rw [hf] at hg; cases hg
    | some fn =>
      rw [hf] at hg
      have hg : isClone fn = true := hg
      have hbody : fn.body.isSome = false := by
        have := (clone_find hg).2.1
        cases hq : fn.body with
        | none => rfl
        | some b => rw [hq] at this; cases this
      have hop : opA P (ev t) ⟨dst, .call ⟨.value (.func g), args, ts⟩, ty, pos, after, guard⟩ A = some (.val (.iface tt (.map (some A.next))), A.add ⟨.map cs c, false, false⟩) := by
        unfold opA
        rw [hk, cond_true]
        dsimp only
        rw [show ev t (.func g) = .func (.func g) #[] #[] from rfl]
        dsimp only
        rw [hf]
        dsimp only
        rw [hbody, hg, cond_false, cond_true, evs_one _ hx, e1]
        unfold cloneA
        dsimp only
        rw [h9]
        dsimp only
        rw [hM.room h7]
        rfl
      rw [hop]
      refine ⟨.val (.val (.iface tt (.map (some F.next)))), _, ?_, hM.add h7 (.map h10), h8⟩
      rw [hM.next]; rfl
  | _ => exact not_bad h4
theorem cloneD_ok {g : FuncId} {args : Array Operand} {ts : Array TypeId} {d : OpD} (h : cloneD gl P n g args.toList = some d) (hk : okOp ⟨dst, .call ⟨.value (.func g), args, ts⟩, ty, pos, after, guard⟩ = true) :
    LOk P B w0 n ⟨dst, .call ⟨.value (.func g), args, ts⟩, ty, pos, after, guard⟩ d.get := by
  unfold cloneD at h
  split at h
  rotate_left
  · cases h
  rename_i l x hx
  cases hg : cloneT P g with
  | false => rw [hg] at h; cases h
  | true =>
    rw [hg, cond_true] at h
    cases hax : accOf gl n x with
    | none => rw [hax] at h; cases h
    | some a =>
      rw [hax] at h
      injection h with h; subst h
      exact rClone_ok hx (accOf_ok hax) hg hk
end
end
end Go.Proofs.YtfeppmhcpfccfaaGreatDoor.Fast
/- A fast evaluator, part U: channels; copy; entries of maps that are written to. Of no program. -/
namespace Go.Proofs.YtfeppmhcpfccfaaGreatDoor.Fast
open Go Go.RowKit Go.Proofs.YtfeppmhcpfccfaaGreatDoor.Sim
noncomputable section
section
variable {P : Program} {B : Nat} {w0 : Base} {n : Nat} {gl : Nat → Bool} {dst : Option Tmp} {ty : TypeId} {pos : String} {after : Array Edge} {guard : Option (Nat × Bool)}
theorem chanK_true {b : Nat} {F : FM} {k : Nat → List FV → R} (h : chanK b F k = true) : b < 262144 ∧ ∃ cap l, Lh.get b F.heap = .chan cap l ∧ k cap l = true := by
  obtain ⟨h1, h2⟩ := ifK_true h
  have hb := blt_lt h1
  refine ⟨hb, ?_⟩
  rw [w262144_get hb] at h2
  generalize (L262144 FO).get b F.heap = x at h2
  cases x with
  | chan cap l => exact ⟨cap, l, rfl, h2⟩
  | _ => exact not_bad h2
theorem MR.chan {F : FM} {A : AW} (h : MR F A) {b : Nat} (hb : b < 262144) {cap : Nat} {l : List FV} (hg : Lh.get b F.heap = .chan cap l) : ∃ c : Array Value, A.heap.get b = some ⟨.chan cap c false 0 0 false, false, false⟩ ∧ c.toList = l.map FV.up := by
  have := h.blk b hb
  rw [hg] at this
  generalize hy : A.heap.get b = y at this
  cases this with
  | chan hc => exact ⟨_, rfl, hc⟩
theorem chK_true {x : SV} {k : Nat → R} (h : chK x k = true) : ∃ b, x.up = .chan (some b) ∧ k b = true := by
  obtain ⟨v, rfl, h⟩ := valK_true h
  cases v with
  | val u =>
    have h : chV u k = true := h
    unfold chV at h
    split at h
    · exact ⟨_, rfl, h⟩
    · exact not_bad h
  | _ => exact not_bad h
theorem lenF_eq : ∀ (l : List FV), lenF l = l.length
  | [] => rfl
  | _ :: l => congrArg Nat.succ (lenF_eq l)
theorem snocF_true {x : FV} : ∀ (l : List FV) {k : List FV → R}, snocF x l k = true → k (l ++ [x]) = true
  | [], k, h => h
  | e :: l, k, h => snocF_true l (k := fun r => k (e :: r)) h
theorem rMakeChan_ok {ct e : TypeId} {d : ChanDir} {ie : TypeInfo} {x : Operand} {a : Acc} (hu : P.underlying ct = some (.chan d e)) (hi : P.info? e = some ie) (hb : Nat.ble ie.bytes 1024 = true) (ha : AccOk n x a) (hk : okOp ⟨dst, .makeChan ct x, ty, pos, after, guard⟩ = true) : LOk P B w0 n ⟨dst, .makeChan ct x, ty, pos, after, guard⟩ (rMakeChan a) := by
  intro rec L F k t A hR h1 h2 hM h
  obtain ⟨i, z, h3, h4⟩ := intK_true h
  obtain ⟨m, rfl, h5⟩ := natV_true h4
  obtain ⟨h6, h7⟩ := ifK_true h5
  obtain ⟨h8, h9⟩ := newF_true h7
  have hr := hM.room h8
  have e1 : ev t x = .int i (Int.ofNat m) := (ha L t h1 h2).symm.trans (by rw [h3]; rfl)
  have : opA P (ev t) ⟨dst, .makeChan ct x, ty, pos, after, guard⟩ A = some (.val (.chan (some A.next)), A.add ⟨.chan m #[] false 0 0 false, false, false⟩) := by
    unfold opA
    rw [hk, cond_true]
    show valA (makeChanA P ct (ev t x) A) = _
    unfold makeChanA
    rw [hu, e1]
    dsimp only
    rw [hi]
    dsimp only
    have hm : m ≤ 1048576 := Nat.le_of_ble_eq_true h6
    have hq : (decide (0 ≤ Int.ofNat m) && decide (Int.ofNat m ≤ 1048576) && Nat.ble ie.bytes 1024 && A.room) = true := by
      rw [hb, hr]
      simp
      omega
    rw [hq]
    rfl
  rw [this]
  refine ⟨_, _, ?_, hM.add h8 (.chan (l := []) (c := #[]) rfl), h9⟩
  rw [hM.next]
  rfl
theorem rLenC_ok {s e : TypeId} {d : ChanDir} {x : Operand} {a : Acc} {args : Array Operand} {ts : Array TypeId} (hargs : args.toList = [x]) (hts : ts.toList = [s]) (hu : P.underlying s = some (.chan d e)) (ha : AccOk n x a) (hk : okOp ⟨dst, .call ⟨.builtin .len, args, ts⟩, ty, pos, after, guard⟩ = true) :
    QOk P n ⟨dst, .call ⟨.builtin .len, args, ts⟩, ty, pos, after, guard⟩ (rLenC a) := by
  intro rec L F k t A h1 h2 hM h
  obtain ⟨b, h3, h4⟩ := chK_true h
  obtain ⟨hb, cap, l, h5, h6⟩ := chanK_true h4
  rw [num_eq, lenF_eq] at h6
  obtain ⟨cs, q1, q2⟩ := hM.chan hb h5
  have e1 : ev t x = .chan (some b) := (ha L t h1 h2).symm.trans h3
  have hts0 : ts[0]? = some s := by rw [← Array.getElem?_toList, hts]; rfl
  have hsz : cs.size = l.length := by rw [← Array.length_toList, q2, List.length_map]
  have hc : cls (ev t) ⟨dst, .call ⟨.builtin .len, args, ts⟩, ty, pos, after, guard⟩ = .mem := by
    unfold cls
    dsimp only
    rw [hargs]
    dsimp only
    rw [e1]
  have hv : opM P (ev t) A ⟨dst, .call ⟨.builtin .len, args, ts⟩, ty, pos, after, guard⟩ = some (.int .i64 (cs.size : Int)) := by
    unfold opM
    dsimp only
    rw [hargs]
    dsimp only
    rw [e1]
    exact lenC_of hts0 hu q1
  rw [quiet_mem hk hc hv]
  exact ⟨.val (.int .i64 (Int.ofNat l.length)), F, by rw [hsz]; rfl, hM, h6⟩
/-- a communication is what it is to be -/
theorem commD_ok {o : Oper} {rec : Rc} {L : Sl} {F : FM} {k : SV → FM → R} {t : Array Value} {A : AW} (h1 : SlR L t) (h2 : n ≤ t.size) (hM : MR F A) (h : commD gl P n o rec L F k = true) : ∃ v A', commA P (ev t) o A = some (v, A') ∧ Post k v A' := by
  unfold commD at h
  unfold commA
  cases hop : o.op with
  | send x y =>
    rw [hop] at h
    dsimp only at h ⊢
    cases ha : accOf gl n x with
    | none => rw [ha] at h; exact not_bad h
    | some a =>
      rw [ha] at h
      cases hb : accOf gl n y with
      | none => rw [hb] at h; exact not_bad h
      | some b =>
        rw [hb] at h
        obtain ⟨c, h3, h4⟩ := chK_true (show chK (a L) _ = true from h)
        obtain ⟨hb2, cap, l, h5, h6⟩ := chanK_true h4
        obtain ⟨h7, h8⟩ := ifK_true h6
        obtain ⟨v, h9, h10⟩ := valK_true h8
        have h11 := putF_true hb2 (snocF_true l h10)
        obtain ⟨cs, q1, q2⟩ := hM.chan hb2 h5
        have e1 : ev t x = .chan (some c) := (accOf_ok ha L t h1 h2).symm.trans h3
        have e2 : ev t y = v.up := (accOf_ok hb L t h1 h2).symm.trans (by rw [h9]; rfl)
        have hsz : cs.size = l.length := by rw [← Array.length_toList, q2, List.length_map]
        rw [lenF_eq] at h7
        rw [e1]
        dsimp only
        rw [q1]
        show ∃ v A', (bif Nat.blt cs.size cap then some (undef, A.put c (some ⟨.chan cap (cs.push (ev t y)) false 0 0 false, false, false⟩)) else none) = some (v, A') ∧ Post k v A'
        rw [hsz, h7, cond_true, e2]
        refine ⟨_, _, rfl, u0, _, rfl, hM.putA hb2 (.chan ?_), h11⟩
        rw [Array.toList_push, q2, List.map_append]
        rfl
  | recv ct x q =>
    rw [hop] at h
    cases q with
    | true => exact not_bad h
    | false =>
      dsimp only at h ⊢
      cases hu : P.underlying ct with
      | none => rw [hu] at h; exact not_bad h
      | some d =>
        rw [hu] at h
        cases d with
        | chan dr e =>
          cases ha : accOf gl n x with
          | none => rw [ha] at h; exact not_bad h
          | some a =>
            rw [ha] at h
            dsimp only at h
            cases hie : P.info? e with
            | none => rw [hie] at h; exact not_bad h
            | some ie =>
              rw [hie] at h
              dsimp only at h
              cases hz : ie.zero with
              | none => rw [hz] at h; exact not_bad h
              | some z =>
                rw [hz] at h
                obtain ⟨c, h3, h4⟩ := chK_true (show chK (a L) _ = true from h)
                obtain ⟨hb2, cap, l, h5, h6⟩ := chanK_true h4
                have e1 : ev t x = .chan (some c) := (accOf_ok ha L t h1 h2).symm.trans h3
                obtain ⟨cs, q1, q2⟩ := hM.chan hb2 h5
                have hsz : cs.size = l.length := by rw [← Array.length_toList, q2, List.length_map]
                rw [e1]
                dsimp only
                rw [hie]
                dsimp only
                rw [hz]
                dsimp only
                rw [q1]
                show ∃ v A', (bif Nat.blt 0 cs.size then some (cs.getD 0 undef, A.put c (some ⟨.chan cap (cs.extract 1 cs.size) false 0 0 false, false, false⟩)) else none) = some (v, A') ∧ Post k v A'
                cases l with
                | nil => exact not_bad h6
                | cons v l =>
                  have h7 := putF_true hb2 (show putF c (.chan cap l) F _ = true from h6)
                  have hpos : Nat.blt 0 cs.size = true := by rw [hsz]; rfl
                  rw [hpos, cond_true]
                  refine ⟨_, _, rfl, .val v, _, ?_, hM.putA hb2 (.chan ?_), h7⟩
                  · have : cs[0]? = some v.up := by rw [← Array.getElem?_toList, q2]; rfl
                    rw [Array.getD_eq_getD_getElem?, this]
                    rfl
                  · rw [Array.toList_extract, q2]
                    have : cs.size = l.length + 1 := hsz
                    rw [this]
                    show (v.up :: l.map FV.up).extract 1 (l.length + 1) = _
                    rw [List.extract_eq_take_drop]
                    simp
                    exact List.take_of_length_le (by simp)
        | _ => exact not_bad h
  | _ => rw [hop] at h; exact not_bad h
theorem minN_eq (a b : Nat) : minN a b = Nat.min a b := by
  unfold minN
  cases h : Nat.ble a b with
  | true => show a = Nat.min a b; exact (Nat.min_eq_left (Nat.le_of_ble_eq_true h)).symm
  | false =>
    have : ¬ a ≤ b := fun hh => by rw [Nat.ble_eq_true_of_le hh] at h; cases h
    show b = Nat.min a b
    exact (Nat.min_eq_right (by omega)).symm
theorem cpK_true {q : Nat} {F : FM} {k : SV → FM → R} {y : R} (h : cpK q F k y = true) : (q = 0 ∧ k (.val (.int .i64 0)) F = true) ∨ (Nat.beq q 0 = false ∧ y = true) := by
  unfold cpK at h
  cases hq : Nat.beq q 0 with
  | true => rw [hq] at h; exact .inl ⟨beq_eq hq, h⟩
  | false => rw [hq] at h; exact .inr ⟨rfl, h⟩
theorem rCopy_ok {s s2 e e2 : TypeId} {x y : Operand} {a a' : Acc} {args : Array Operand} {ts : Array TypeId} {it : TypeInfo} (hargs : args.toList = [x, y]) (hts : ts.toList = [s, s2]) (hu : P.underlying s = some (.slice e)) (hu2 : P.underlying s2 = some (.slice e2)) (hi : P.info? e = some it) (hpos : 0 < it.size) (h64 : it.size ≤ 64)
    (ha : AccOk n x a) (hb : AccOk n y a') (hk : okOp ⟨dst, .call ⟨.builtin .copy, args, ts⟩, ty, pos, after, guard⟩ = true) : LOk P B w0 n ⟨dst, .call ⟨.builtin .copy, args, ts⟩, ty, pos, after, guard⟩ (rCopy it.size a a') := by
  intro rec L F k t A hR h1 h2 hM h
  have goal : ∀ {v A'}, copyA P ts (ev t x) (ev t y) A = some (v, A') → Post k v A' → (match opA P (ev t) ⟨dst, .call ⟨.builtin .copy, args, ts⟩, ty, pos, after, guard⟩ A with
      | some (.val v, A') => Post k v A'
      | some (.skip, A') => Post k undef A'
      | some (.enter f args, A') => CallS P B w0 f args A' (Post k)
      | some (.round b tmps a c, A') => RoundW P B w0 b tmps a c A' (Post k)
      | none => NextK (ev t) ⟨dst, .call ⟨.builtin .copy, args, ts⟩, ty, pos, after, guard⟩ A (Post k)) := by
    intro v A' he hp
    have hopA : opA P (ev t) ⟨dst, .call ⟨.builtin .copy, args, ts⟩, ty, pos, after, guard⟩ A = valA (copyA P ts (ev t x) (ev t y) A) := by
      unfold opA
      rw [hk, cond_true]
      dsimp only
      rw [hargs]
    rw [hopA, he]
    exact hp
  have hcp : ∀ {xb n c yb m d}, ev t x = .slice xb n c → ev t y = .slice yb m d → copyA P ts (ev t x) (ev t y) A = (bif Nat.beq (Nat.min m n) 0 then some (.int .i64 0, A) else match xb, yb with
        | some ⟨b, o, none⟩, some ⟨b2, o2, none⟩ => match cellsA A b2 o2 (Nat.min m n * it.size) with
          | some news => match runA P (storeCells ⟨b, o, none⟩ news) A with
            | some (_, A') => some (.int .i64 (Nat.min m n : Int), A')
            | none => none
          | none => none
        | _, _ => none) := by
    intro xb n c yb m d e1 e2
    unfold copyA
    rw [hts]
    dsimp only
    rw [hu, hu2, e1, e2]
    dsimp only
    rw [hi]
    rfl
  have zero : ∀ {xb n c yb m d}, ev t x = .slice xb n c → ev t y = .slice yb m d → cpK (minN m n) F k bad = true → (match opA P (ev t) ⟨dst, .call ⟨.builtin .copy, args, ts⟩, ty, pos, after, guard⟩ A with
      | some (.val v, A') => Post k v A'
      | some (.skip, A') => Post k undef A'
      | some (.enter f args, A') => CallS P B w0 f args A' (Post k)
      | some (.round b tmps a c, A') => RoundW P B w0 b tmps a c A' (Post k)
      | none => NextK (ev t) ⟨dst, .call ⟨.builtin .copy, args, ts⟩, ty, pos, after, guard⟩ A (Post k)) := by
    intro xb n c yb m d e1 e2 hc
    rcases cpK_true hc with ⟨q1, q2⟩ | ⟨_, q2⟩
    · rw [minN_eq] at q1
      exact goal (by rw [hcp e1 e2, q1]; rfl) ⟨.val (.int .i64 0), F, rfl, hM, q2⟩
    · exact not_bad q2
  rcases slcK_true (show slcK (a L) _ _ = true from h) with ⟨nn, c, h3, h4⟩ | ⟨b, o, nn, c, h3, h4⟩
  · have e1 : ev t x = .slice none nn c := (ha L t h1 h2).symm.trans (by rw [h3]; rfl)
    rcases slcK_true (show slcK (a' L) _ _ = true from h4) with ⟨m, d, h5, h6⟩ | ⟨b2, o2, m, d, h5, h6⟩
    · exact zero e1 ((hb L t h1 h2).symm.trans (by rw [h5]; rfl) : ev t y = .slice none m d) h6
    · exact zero e1 ((hb L t h1 h2).symm.trans (by rw [h5]; rfl) : ev t y = .slice (some ⟨b2, o2, none⟩) m d) h6
  · have e1 : ev t x = .slice (some ⟨b, o, none⟩) nn c := (ha L t h1 h2).symm.trans (by rw [h3]; rfl)
    rcases slcK_true (show slcK (a' L) _ _ = true from h4) with ⟨m, d, h5, h6⟩ | ⟨b2, o2, m, d, h5, h6⟩
    · exact zero e1 ((hb L t h1 h2).symm.trans (by rw [h5]; rfl) : ev t y = .slice none m d) h6
    · have e2 : ev t y = .slice (some ⟨b2, o2, none⟩) m d := (hb L t h1 h2).symm.trans (by rw [h5]; rfl)
      rw [num_eq, minN_eq] at h6
      obtain ⟨q, hq0⟩ : ∃ q, Nat.min m nn = q := ⟨_, rfl⟩
      rw [hq0] at h6
      rcases cpK_true h6 with ⟨q1, q2⟩ | ⟨hq, h7⟩
      · exact goal (by rw [hcp e1 e2, hq0, q1]; rfl) ⟨.val (.int .i64 0), F, rfl, hM, q2⟩
      · obtain ⟨hb1, rows, n1, esz1, e1t, fam, ro, g1, g2⟩ := blkK_true h7
        obtain ⟨cc, hc⟩ := hM.at hb1 g1
        obtain ⟨hb2, rows2, n2, esz2, e2t, fam2, ro2, g3, g4⟩ := blkK_true g2
        obtain ⟨c2, hc2⟩ := hM.at hb2 g3
        obtain ⟨g5, g6⟩ := ifK_true g4
        simp only [Bool.and_eq_true] at g5
        obtain ⟨⟨⟨⟨p0, p1⟩, p2⟩, p3⟩, p4⟩ := g5
        have hro : ro = false := by cases ro <;> first | rfl | cases p0
        subst hro
        have p1' := beq_eq p1
        have p2' := beq_eq p2
        subst p1' p2'
        have hal : o % it.size = 0 := beq_eq p3
        have hal2 : o2 % it.size = 0 := beq_eq p4
        rw [num_eq, num_eq] at g6
        obtain ⟨g7, g8⟩ := ifK_true g6
        rw [Bool.and_eq_true] at g7
        have k1 : o / it.size + q ≤ n1 := Nat.le_of_ble_eq_true g7.1
        have k2 : o2 / it.size + q ≤ n2 := Nat.le_of_ble_eq_true g7.2
        have ho : o / it.size * it.size = o := by
          have := Nat.div_add_mod o it.size
          rw [hal, Nat.add_zero, Nat.mul_comm] at this
          exact this
        have ho2 : o2 / it.size * it.size = o2 := by
          have := Nat.div_add_mod o2 it.size
          rw [hal2, Nat.add_zero, Nat.mul_comm] at this
          exact this
        have hc0 := hc.h2
        have hc20 := hc2.h2
        obtain ⟨r, r1, r2⟩ := copyR_true q (Nat.div o2 it.size) (Nat.div o it.size) rows2 rows _ (Nat.le_trans k2 hc20) (Nat.le_trans k1 hc0) g8
        have h13 := putF_true hb1 r1
        have hbd : o + q * it.size ≤ n1 * it.size := by
          have := Nat.mul_le_mul_right it.size k1
          rw [Nat.add_mul, ho] at this
          exact this
        have hbd2 : o2 + q * it.size ≤ n2 * it.size := by
          have := Nat.mul_le_mul_right it.size k2
          rw [Nat.add_mul, ho2] at this
          exact this
        have hnews := hc2.cellsL hbd2
        obtain ⟨A', c', s1, s2, s3, s4, s5, s6⟩ := run_storeCells (P := P) (o := o) hb1 (cellsL rows2 it.size o2 (q * it.size)) 0 A cc hc.get (by rw [cellsL_len, hc.size]; omega) (fun u hu => List.all_eq_true.1 (cellsL_one rows2 it.size o2 (q * it.size)) u hu)
        refine goal (v := .int .i64 (q : Int)) (A' := A') ?_ ⟨.val (.int .i64 (Int.ofNat q)), _, rfl, hM.put hb1 s2 ?_ s3, h13⟩
        · rw [hcp e1 e2, hq0, hq, cond_false]
          dsimp only
          rw [hnews]
          dsimp only
          rw [s1]
        · rw [s4]
          refine .blk hc.h0 hc.h1 hc.h2 (by rw [s5]; exact hc.size) fun j hj => ?_
          rw [s6 j, cellsL_len, Nat.add_zero]
          have hdo : Nat.div o it.size * it.size = o := ho
          have hdo2 : Nat.div o2 it.size * it.size = o2 := ho2
          have hsum : (Nat.div o it.size + q) * it.size = o + q * it.size := by rw [Nat.add_mul, hdo]
          have hk1 : Nat.div o it.size + q ≤ 512 := Nat.le_trans k1 hc0
          by_cases j2 : j < o + q * it.size
          · rw [copied hpos hk1 r2 (by rw [hsum]; exact j2), hdo, hdo2]
            by_cases j1 : j < o
            · rw [if_pos j1, if_neg (by omega)]
              exact hc.cell j hj
            · rw [if_neg j1, if_pos ⟨by omega, j2⟩, cellsL_get, if_pos (by omega)]
          · rw [if_neg (by omega), copied_rest hpos hc0 r2 (by rw [hsum]; omega) hj]
            exact hc.cell j hj
theorem bornE_true : ∀ (l : List ME) (i : Nat) {k : Nat → R}, bornE l i k = true → ∃ e, l[i]? = some e ∧ k e.born = true
  | [], i, k, h => not_bad h
  | e :: l, 0, k, h => ⟨e, rfl, h⟩
  | e :: l, i + 1, k, h => bornE_true l i h
theorem rMapEntry_ok {mt kt e : TypeId} {x y : Operand} {a b' : Acc} {s : Option IntKind} {ie : TypeInfo} {z : Value} {zero : SV} (hu : P.underlying mt = some (.map kt e)) (hs : keyB P kt = some s) (hi : P.info? e = some ie) (hz : ie.zero = some z) (hzero : zero.up = z) (ha : AccOk n x a) (hb : AccOk n y b') (hk : okOp ⟨dst, .mapEntry mt x y, ty, pos, after, guard⟩ = true) :
    LOk P B w0 n ⟨dst, .mapEntry mt x y, ty, pos, after, guard⟩ (rMapEntry s zero a b') := by
  intro rec L F k t A hR h1 h2 hM h
  obtain ⟨key, h3, h4⟩ := valK_true h
  obtain ⟨hkt, h5⟩ := kindK_true h4
  have e2 : ev t y = key.up := (hb L t h1 h2).symm.trans (by rw [h3]; rfl)
  have hd := keyB_spec hs
  rcases mpK_true h5 with ⟨_, h7⟩ | ⟨b, h7, h8⟩
  · exact not_bad h7
  have e1 : ev t x = .map (some b) := (ha L t h1 h2).symm.trans (by rw [h7]; rfl)
  obtain ⟨hb2, es, c, h9, h10⟩ := mapK_true h8
  obtain ⟨cs, q1, q2⟩ := hM.map hb2 h9
  have base : ∀ (X : Option (Value × AW)), (match Instr.findNow (kd s) key.up (es.map upE) 0 with
            | some (some (i, v)) => some (Value.tuple #[v, .int .i64 ((((cs[i]?).map (·.born)).getD 0 : Nat) : Int)], A.put b (some ⟨.map cs c, false, false⟩))
            | some none => some (Value.tuple #[z, .int .i64 (c : Int)], A.put b (some ⟨.map (cs.push { key := key.up, val := z, born := c }) (c + 1), false, false⟩))
            | none => none) = X → opA P (ev t) ⟨dst, .mapEntry mt x y, ty, pos, after, guard⟩ A = valA X := by
    intro X hX
    unfold opA
    rw [hk, cond_true]
    show valA (mapEntryA P mt (ev t x) (ev t y) A) = _
    congr 1
    unfold mapEntryA
    rw [hu]
    dsimp only
    rw [hd, hi]
    dsimp only
    rw [hz]
    dsimp only
    rw [e1, e2, hkt, cond_true]
    dsimp only
    rw [q1]
    dsimp only
    rw [q2]
    exact hX
  rcases findF_true hkt es 0 h10 with ⟨g1, g2⟩ | ⟨j, e', g1, g2, g3, g4⟩
  · obtain ⟨g3, g4⟩ := hd1_true g2
    have g5 := snocK_true _ g3
    have g6 := putF_true hb2 (show putF b _ F _ = true from g5)
    rw [base _ (by rw [g1])]
    refine ⟨_, _, ?_, hM.putA hb2 (.map ?_), g6⟩
    · show Value.tuple ⟨SV.tl (.cons zero (.cons (.val (.int .i64 (Int.ofNat c))) .nil))⟩ = _
      rw [g4, hzero]
      rfl
    · rw [Array.toList_push, q2, List.map_append]
      show _ = _ ++ [(⟨key.up, zero.up, c⟩ : MapEntry)]
      rw [hzero]
      rfl
  · rw [Nat.zero_add] at g1 g4
    obtain ⟨e3, g5, g6⟩ := bornE_true es j g4
    rw [g2] at g5
    injection g5 with g5
    subst g5
    obtain ⟨g7, g8⟩ := hd1_true g6
    have hbn : cs[j]? = some (upE e') := by rw [← Array.getElem?_toList, q2, List.getElem?_map, g2]; rfl
    rw [base _ (by rw [g1])]
    refine ⟨_, F, ?_, ?_, g7⟩
    · show Value.tuple ⟨SV.tl (.cons e'.val (.cons (.val (.int .i64 (Int.ofNat e'.born))) .nil))⟩ = _
      rw [g8, hbn]
      rfl
    · refine ⟨hM.next, fun d hd2 => ?_⟩
      rw [AW.put_at hb2]
      by_cases hdb : d = b
      · rw [if_pos hdb, hdb, ← q1]; exact hM.blk b hb2
      · rw [if_neg hdb]; exact hM.blk d hd2
theorem idxE_true {c : Nat} : ∀ (l : List ME) (i : Nat) {k : Nat → R}, idxE c l i k = true → ∃ j, (l.map upE).findIdx? (fun e => (e.born : Int) == Int.ofNat c) = some j ∧ k (i + j) = true
  | [], i, k, h => not_bad h
  | e :: l, i, k, h => by
    have h' : Bool.rec (motive := fun _ => R) (idxE c l (i + 1) k) (k i) (Nat.beq e.born c) = true := h
    rw [List.map_cons, List.findIdx?_cons]
    cases hq : Nat.beq e.born c with
    | true =>
      rw [hq] at h'
      have : ((upE e).born : Int) == Int.ofNat c := by
        have := beq_eq hq
        show ((e.born : Nat) : Int) == Int.ofNat c
        rw [this]
        exact beq_self_eq_true _
      rw [if_pos this]
      exact ⟨0, rfl, h'⟩
    | false =>
      rw [hq] at h'
      obtain ⟨j, g1, g2⟩ := idxE_true l (i + 1) h'
      have : ¬ ((((upE e).born : Int) == Int.ofNat c) = true) := by
        intro hh
        have hh2 : ((e.born : Nat) : Int) = Int.ofNat c := eq_of_beq hh
        have : e.born = c := Int.ofNat.inj hh2
        rw [this, Nat.beq_refl] at hq
        cases hq
      rw [if_neg this, g1]
      exact ⟨j + 1, rfl, by rw [show i + (j + 1) = i + 1 + j by omega]; exact g2⟩
theorem rEntryStore_ok {mt : TypeId} {x y z : Operand} {a b' c' : Acc} (ha : AccOk n x a) (hb : AccOk n y b') (hc : AccOk n z c') (hk : okOp ⟨dst, .entryStore mt x y z, ty, pos, after, guard⟩ = true) :
    LOk P B w0 n ⟨dst, .entryStore mt x y z, ty, pos, after, guard⟩ (rEntryStore a b' c') := by
  intro rec L F k t A hR h1 h2 hM h
  rcases mpK_true (show mpK (a L) bad _ = true from h) with ⟨_, h7⟩ | ⟨b, h7, h8⟩
  · exact not_bad h7
  have e1 : ev t x = .map (some b) := (ha L t h1 h2).symm.trans (by rw [h7]; rfl)
  obtain ⟨kd2, w, h9, h10⟩ := intK_true h8
  obtain ⟨born, rfl, h11⟩ := natV_true h10
  have e2 : ev t y = .int kd2 (Int.ofNat born) := (hb L t h1 h2).symm.trans (by rw [h9]; rfl)
  obtain ⟨h12, _⟩ := hd1_true h11
  have e3 : ev t z = (c' L).up := (hc L t h1 h2).symm
  obtain ⟨hb2, es, c, h13, h14⟩ := mapK_true h12
  obtain ⟨cs, q1, q2⟩ := hM.map hb2 h13
  obtain ⟨j, g1, g2⟩ := idxE_true es 0 h14
  rw [Nat.zero_add] at g2
  obtain ⟨l', g5, g6, g7⟩ := putE_true _ _ g2
  have g8 := putF_true hb2 (show putF b _ F _ = true from g5)
  have hop : opA P (ev t) ⟨dst, .entryStore mt x y z, ty, pos, after, guard⟩ A = some (.skip, A.put b (some ⟨.map (cs.modify j fun e => { e with val := (c' L).up }) c, false, false⟩)) := by
    have hs : entryStoreA (ev t x) (ev t y) (ev t z) A = some (A.put b (some ⟨.map (cs.modify j fun e => { e with val := (c' L).up }) c, false, false⟩)) := by
      unfold entryStoreA
      rw [e1, e2, e3]
      dsimp only
      rw [q1]
      dsimp only
      rw [q2, g1]
    unfold opA
    rw [hk, cond_true]
    dsimp only
    rw [hs]
  rw [hop]
  refine ⟨u0, _, rfl, hM.putA hb2 (.map ?_), g8⟩
  apply List.ext_getElem?
  intro p
  rw [Array.getElem?_toList, Array.getElem?_modify, List.getElem?_map, g7 p]
  have e4 : cs[p]? = (es[p]?).map upE := by rw [← Array.getElem?_toList, q2, List.getElem?_map]
  rw [e4]
  by_cases hp : p = j
  · subst hp
    rw [if_pos rfl, if_pos rfl]
    cases es[p]? <;> rfl
  · rw [if_neg hp, if_neg (fun q => hp q.symm)]
    rfl
end
end
end Go.Proofs.YtfeppmhcpfccfaaGreatDoor.Fast
