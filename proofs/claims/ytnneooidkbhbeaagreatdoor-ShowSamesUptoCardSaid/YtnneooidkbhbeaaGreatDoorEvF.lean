/- A fast evaluator, part F: numbers and strings. Of no program. -/
import Derived.Test.YtnneooidkbhbeaaGreatDoorEvE
import Derived.Laws.Strings
set_option linter.unusedVariables false
set_option linter.unusedSimpArgs false
namespace Go.Proofs.YtnneooidkbhbeaaGreatDoor.Fast
open Go Go.RowKit Go.Proofs.YtnneooidkbhbeaaGreatDoor.Sim
noncomputable section

/-- numbers -/
theorem natBeq (x y : Nat) : Nat.beq x y = decide (x = y) := by
  by_cases h : x = y
  · rw [decide_eq_true h, h]; exact Nat.beq_refl y
  · rw [decide_eq_false h]; exact Tr.beq_false h
theorem natBlt (x y : Nat) : Nat.blt x y = decide (x < y) := by
  by_cases h : x < y
  · rw [decide_eq_true h]; exact Nat.ble_eq_true_of_le h
  · rw [decide_eq_false h]
    cases hb : Nat.blt x y with
    | false => rfl
    | true => exact absurd (Nat.le_of_ble_eq_true hb) h
theorem intEq_eq (a b : Int) : intEq a b = decide (a = b) := by
  cases a with
  | ofNat x => cases b with
    | ofNat y => show Nat.beq x y = _; rw [natBeq]; exact decide_eq_decide.2 ⟨fun h => by rw [h], fun h => by injection h⟩
    | negSucc y => show false = _; exact (decide_eq_false (by intro h; cases h)).symm
  | negSucc x => cases b with
    | ofNat y => show false = _; exact (decide_eq_false (by intro h; cases h)).symm
    | negSucc y => show Nat.beq x y = _; rw [natBeq]; exact decide_eq_decide.2 ⟨fun h => by rw [h], fun h => by injection h⟩
theorem intLt_eq (a b : Int) : intLt a b = decide (a < b) := by
  cases a with
  | ofNat x => cases b with
    | ofNat y => show Nat.blt x y = _; rw [natBlt]; exact decide_eq_decide.2 ⟨fun h => by simp only [Int.ofNat_eq_natCast]; omega, fun h => by simp only [Int.ofNat_eq_natCast] at h; omega⟩
    | negSucc y => show false = _; exact (decide_eq_false (by simp only [Int.ofNat_eq_natCast]; omega)).symm
  | negSucc x => cases b with
    | ofNat y => show true = _; exact (decide_eq_true (by simp only [Int.ofNat_eq_natCast]; omega)).symm
    | negSucc y => show Nat.blt y x = _; rw [natBlt]; exact decide_eq_decide.2 ⟨fun h => by omega, fun h => by omega⟩
theorem kix_inj {i j : IntKind} (h : Nat.beq (kix i) (kix j) = true) : i = j := by
  cases i <;> cases j <;> first | rfl | cases h
theorem fit_wrap {i : IntKind} {n : Nat} (h : n ≤ kmax i) : IntKind.wrap i (Int.ofNat n) = Int.ofNat n := by
  have e : Int.ofNat n = (n : Int) := rfl
  rw [e]
  cases i
  · have : kmax .i8 = 127 := rfl
    exact IntWalk.i8_in _ (by omega)
  · have : kmax .i16 = 32767 := rfl
    exact IntWalk.i16_in _ (by omega)
  · have : kmax .i32 = 2147483647 := rfl
    exact IntWalk.i32_in _ (by omega)
  · have : kmax .i64 = 9223372036854775807 := rfl
    exact IntWalk.i64_in _ (by omega)
  · have : kmax .u8 = 255 := rfl
    exact IntWalk.u8_in _ (by omega)
  · have : kmax .u16 = 65535 := rfl
    exact IntWalk.u16_in _ (by omega)
  · have : kmax .u32 = 4294967295 := rfl
    exact IntWalk.u32_in _ (by omega)
  · have : kmax .u64 = 18446744073709551615 := rfl
    exact IntWalk.u64_in _ (by omega)
theorem fitK_true {i : IntKind} {n : Nat} {k : Int → R} (h : fitK i n k = true) : k (IntKind.wrap i (Int.ofNat n)) = true := by
  unfold fitK at h
  cases hb : Nat.ble n (kmax i) with
  | true => rw [hb] at h; rw [fit_wrap (Nat.le_of_ble_eq_true hb)]; exact h
  | false => rw [hb] at h; have h' : intF (IntKind.wrap i (Int.ofNat n)) k = true := h; rw [intF_eq] at h'; exact h'
theorem addI_true {i : IntKind} {a b : Int} {k : Int → R} (h : addI i a b k = true) : k (IntKind.wrap i (a + b)) = true := by
  cases a with
  | ofNat x => cases b with
    | ofNat y => exact fitK_true (show fitK i (Nat.add x y) k = true from h)
    | negSucc y => have h' : intF _ k = true := h; rw [intF_eq] at h'; exact h'
  | negSucc x => have h' : intF _ k = true := h; rw [intF_eq] at h'; exact h'
theorem subI_true {i : IntKind} {a b : Int} {k : Int → R} (h : subI i a b k = true) : k (IntKind.wrap i (a - b)) = true := by
  cases a with
  | ofNat x => cases b with
    | ofNat y =>
      have h' : ifK (Nat.ble y x) (fitK i (Nat.sub x y) k) (intF (IntKind.wrap i (Int.sub (Int.ofNat x) (Int.ofNat y))) k) = true := h
      cases hb : Nat.ble y x with
      | true =>
        rw [hb] at h'
        have hle := Nat.le_of_ble_eq_true hb
        have := fitK_true (show fitK i (Nat.sub x y) k = true from h')
        have e : Int.ofNat (Nat.sub x y) = Int.ofNat x - Int.ofNat y := by show ((x - y : Nat) : Int) = (x : Int) - (y : Int); omega
        rw [e] at this
        exact this
      | false => rw [hb] at h'; have h2 : intF _ k = true := h'; rw [intF_eq] at h2; exact h2
    | negSucc y => have h' : intF _ k = true := h; rw [intF_eq] at h'; exact h'
  | negSucc x => have h' : intF _ k = true := h; rw [intF_eq] at h'; exact h'
theorem mulI_true {i : IntKind} {a b : Int} {k : Int → R} (h : mulI i a b k = true) : k (IntKind.wrap i (a * b)) = true := by
  cases a with
  | ofNat x => cases b with
    | ofNat y => exact fitK_true (show fitK i (Nat.mul x y) k = true from h)
    | negSucc y => have h' : intF _ k = true := h; rw [intF_eq] at h'; exact h'
  | negSucc x => have h' : intF _ k = true := h; rw [intF_eq] at h'; exact h'

section
variable {P : Program} {n : Nat} {dst : Option Tmp} {ty : TypeId} {pos : String} {after : Array Edge} {guard : Option (Nat × Bool)}
theorem bin_of {op : BinOp} {xt yt : TypeId} {x y : Operand} {t : Operand → Value} {u v r : Value} (hx : t x = u) (hy : t y = v) (fu : free u = true) (fv : free v = true) (he : pureRun P (eqGuard op xt x y u v) = some ()) (hr : pureRun P (binOp op xt u v) = some r) (fr : free r = true) :
    opQ P t ⟨dst, .binOp op xt x y yt, ty, pos, after, guard⟩ = some r := by
  show (bif free (t x) && free (t y) then freeQ P t ⟨dst, .binOp op xt x y yt, ty, pos, after, guard⟩ else _) = some r
  rw [hx, hy, fu, fv]
  show freeQ P t ⟨dst, .binOp op xt x y yt, ty, pos, after, guard⟩ = some r
  unfold freeQ
  have e1 : (List.all (Oper.op ⟨dst, .binOp op xt x y yt, ty, pos, after, guard⟩).operands.toList fun z => free (t z)) = true := by
    show List.all [x, y] _ = true
    simp [hx, hy, fu, fv]
  have e2 : pureRun P (execOp t ⟨dst, .binOp op xt x y yt, ty, pos, after, guard⟩) = some (Next.value r) := by
    show pureRun P (Sem.bind (Sem.bind (eqGuard op xt x y (t x) (t y)) fun _ => binOp op xt (t x) (t y)) fun v => Sem.pure (Next.value v)) = _
    rw [hx, hy]
    exact pureRun_bind.2 ⟨r, pureRun_bind.2 ⟨(), he, hr⟩, rfl⟩
  rw [e1, e2]
  simp [isSel, fr]
theorem eqGuard_int (op : BinOp) (xt : TypeId) (x y : Operand) (i j : IntKind) (a b : Int) : pureRun P (eqGuard op xt x y (.int i a) (.int j b)) = some () := by
  unfold eqGuard; cases op <;> rfl
theorem eqGuard_str (op : BinOp) (xt : TypeId) (x y : Operand) (a b : ByteArray) : pureRun P (eqGuard op xt x y (.string a) (.string b)) = some () := by
  unfold eqGuard; cases op <;> rfl
/-- what an operator is at integers -/
def BinI (P : Program) (op : BinOp) (f : IntKind → Int → Int → Value) : Prop := ∀ (xt : TypeId) (i : IntKind) (a b : Int), pureRun P (binOp op xt (.int i a) (.int i b)) = some (f i a b)
theorem bin_eql : BinI P .eql fun _ a b => .bool (intEq a b) := by intro xt i a b; dsimp only; rw [intEq_eq]; cases i <;> rfl
theorem bin_neq : BinI P .neq fun _ a b => .bool (Bool.not (intEq a b)) := by intro xt i a b; dsimp only; rw [intEq_eq]; cases i <;> rfl
theorem bin_lss : BinI P .lss fun _ a b => .bool (intLt a b) := by intro xt i a b; dsimp only; rw [intLt_eq]; cases i <;> rfl
theorem bin_gtr : BinI P .gtr fun _ a b => .bool (intLt b a) := by intro xt i a b; dsimp only; rw [intLt_eq]; cases i <;> rfl
theorem not_lt_dec (a b : Int) : Bool.not (decide (b < a)) = decide (a ≤ b) := by
  by_cases h : b < a
  · rw [decide_eq_true h, decide_eq_false (by omega)]; rfl
  · rw [decide_eq_false h, decide_eq_true (by omega)]; rfl
theorem bin_leq : BinI P .leq fun _ a b => .bool (Bool.not (intLt b a)) := by intro xt i a b; simp only [intLt_eq, not_lt_dec]; cases i <;> rfl
theorem bin_geq : BinI P .geq fun _ a b => .bool (Bool.not (intLt a b)) := by intro xt i a b; simp only [intLt_eq, not_lt_dec]; cases i <;> rfl
theorem bin_add : BinI P .add fun i a b => .int i (IntKind.wrap i (a + b)) := by intro xt i a b; cases i <;> rfl
theorem bin_sub : BinI P .sub fun i a b => .int i (IntKind.wrap i (a - b)) := by intro xt i a b; cases i <;> rfl
theorem bin_mul : BinI P .mul fun i a b => .int i (IntKind.wrap i (a * b)) := by intro xt i a b; cases i <;> rfl
theorem rCmp_ok {op : BinOp} {f : Int → Int → Bool} (hf : BinI P op fun _ a b => .bool (f a b)) {xt yt : TypeId} {x y : Operand} {a b : Acc} (ha : AccOk n x a) (hb : AccOk n y b) (hk : okOp ⟨dst, .binOp op xt x y yt, ty, pos, after, guard⟩ = true) : QOk P n ⟨dst, .binOp op xt x y yt, ty, pos, after, guard⟩ (rCmp f a b) :=
  QOk.pure hk (fun _ => rfl) fun rec L F k t h1 h2 h => by
    obtain ⟨i, z, h3, h4⟩ := intK_true h
    obtain ⟨j, w, h5, h6⟩ := intK_true h4
    obtain ⟨h7, h8⟩ := ifK_true h6
    obtain rfl := kix_inj h7
    rw [boolF_eq] at h8
    have e1 : ev t x = .int i z := (ha L t h1 h2).symm.trans (by rw [h3]; rfl)
    have e2 : ev t y = .int i w := (hb L t h1 h2).symm.trans (by rw [h5]; rfl)
    exact ⟨.val (.bool (f z w)), bin_of e1 e2 rfl rfl (eqGuard_int ..) (hf xt i z w) rfl, h8⟩
theorem rArith_ok {op : BinOp} {f : IntKind → Int → Int → (Int → R) → R} {g : IntKind → Int → Int → Int} (hg : ∀ {i a b k}, f i a b k = true → k (IntKind.wrap i (g i a b)) = true) (hf : BinI P op fun i a b => .int i (IntKind.wrap i (g i a b))) {xt yt : TypeId} {x y : Operand} {a b : Acc} (ha : AccOk n x a) (hb : AccOk n y b) (hk : okOp ⟨dst, .binOp op xt x y yt, ty, pos, after, guard⟩ = true) : QOk P n ⟨dst, .binOp op xt x y yt, ty, pos, after, guard⟩ (rArith f a b) :=
  QOk.pure hk (fun _ => rfl) fun rec L F k t h1 h2 h => by
    obtain ⟨i, z, h3, h4⟩ := intK_true h
    obtain ⟨j, w, h5, h6⟩ := intK_true h4
    obtain ⟨h7, h8⟩ := ifK_true h6
    obtain rfl := kix_inj h7
    have e1 : ev t x = .int i z := (ha L t h1 h2).symm.trans (by rw [h3]; rfl)
    have e2 : ev t y = .int i w := (hb L t h1 h2).symm.trans (by rw [h5]; rfl)
    exact ⟨.val (.int i (IntKind.wrap i (g i z w))), bin_of e1 e2 rfl rfl (eqGuard_int ..) (hf xt i z w) rfl, hg h8⟩

/-- strings -/
theorem bytesOf_toList (m z : Nat) : (bytesOf m z).toList = (List.range m).map fun i => UInt8.ofNat (Nat.shiftRight z (8 * i)) := by rw [ByteArray.toList_eq]; rfl
theorem bytesOf_size (m z : Nat) : (bytesOf m z).size = m := by
  show (bytesOf m z).data.size = m
  simp [bytesOf]
theorem byte_eq (z i : Nat) : (UInt8.ofNat (Nat.shiftRight z (8 * i))).toNat = z / 2 ^ (8 * i) % 256 := by
  show (z >>> (8 * i)) % 2 ^ 8 = _
  rw [Nat.shiftRight_eq_div_pow]
theorem u8_ext {a b : Nat} (h : a % 256 = b % 256) : UInt8.ofNat a = UInt8.ofNat b := by
  apply UInt8.toNat_inj.1
  show a % 2 ^ 8 = b % 2 ^ 8
  exact h
/-- a number is told by its bytes -/
theorem bytes_num : ∀ (m z w : Nat), (∀ i, i < m → z / 2 ^ (8 * i) % 256 = w / 2 ^ (8 * i) % 256) ↔ z % 2 ^ (8 * m) = w % 2 ^ (8 * m)
  | 0, z, w => by simp [Nat.mod_one]
  | m + 1, z, w => by
    have hs : ∀ z : Nat, z % 2 ^ (8 * (m + 1)) = z % 256 + 256 * (z / 256 % 2 ^ (8 * m)) := by
      intro z
      rw [show 8 * (m + 1) = 8 + 8 * m by omega, Nat.pow_add, Nat.mod_mul]
    have hd : ∀ z i : Nat, z / 256 / 2 ^ (8 * i) = z / 2 ^ (8 * (i + 1)) := by
      intro z i
      rw [Nat.div_div_eq_div_mul, show 8 * (i + 1) = 8 + 8 * i by omega, Nat.pow_add]
    have ih := bytes_num m (z / 256) (w / 256)
    constructor
    · intro h
      have h0 := h 0 (by omega)
      simp at h0
      rw [hs, hs, h0, ih.1 (fun i hi => by rw [hd, hd]; exact h (i + 1) (by omega))]
    · intro h i hi
      rw [hs, hs] at h
      have h0 : z % 256 = w % 256 := by omega
      have h1 : z / 256 % 2 ^ (8 * m) = w / 256 % 2 ^ (8 * m) := by omega
      cases i with
      | zero => simpa using h0
      | succ i => rw [← hd, ← hd]; exact ih.2 h1 i (by omega)
theorem strEq_eq (m z q w : Nat) : strEq m z q w = ((bytesOf m z).toList == (bytesOf q w).toList) := by
  rw [Bool.eq_iff_iff, bytesOf_toList, bytesOf_toList]
  unfold strEq
  rw [Bool.and_eq_true, beq_iff_eq]
  constructor
  · rintro ⟨h1, h2⟩
    obtain rfl := beq_eq h1
    have h3 := (bytes_num m z w).2 (beq_eq h2)
    refine List.map_congr_left fun i hi => u8_ext ?_
    have := h3 i (List.mem_range.1 hi)
    rw [← Nat.shiftRight_eq_div_pow, ← Nat.shiftRight_eq_div_pow] at this
    exact this
  · intro h
    have hl := congrArg List.length h
    simp at hl
    subst hl
    refine ⟨Nat.beq_refl _, ?_⟩
    have : z % 2 ^ (8 * m) = w % 2 ^ (8 * m) := (bytes_num m z w).1 fun i hi => by
      have := congrArg (fun l : List UInt8 => l[i]?) h
      simp only [List.getElem?_map, List.getElem?_range hi, Option.map_some] at this
      injection this with this
      have := congrArg UInt8.toNat this
      rw [byte_eq, byte_eq] at this
      exact this
    exact Tr.beq_iff.2 this
theorem bin_str_eql (xt : TypeId) (s u : ByteArray) : pureRun P (binOp .eql xt (.string s) (.string u)) = some (.bool (s.toList == u.toList)) := by rw [binOp_string_eql]; rfl
theorem bin_str_neq (xt : TypeId) (s u : ByteArray) : pureRun P (binOp .neq xt (.string s) (.string u)) = some (.bool !(s.toList == u.toList)) := by rw [binOp_string_neq]; rfl
theorem rStrEq_ok {neg : Bool} {xt yt : TypeId} {x y : Operand} {a b : Acc} (ha : AccOk n x a) (hb : AccOk n y b) (hk : okOp ⟨dst, .binOp (bif neg then .neq else .eql) xt x y yt, ty, pos, after, guard⟩ = true) : QOk P n ⟨dst, .binOp (bif neg then .neq else .eql) xt x y yt, ty, pos, after, guard⟩ (rStrEq neg a b) :=
  QOk.pure hk (fun _ => rfl) fun rec L F k t h1 h2 h => by
    obtain ⟨i, z, h3, h4⟩ := strK_true h
    obtain ⟨j, w, h5, h6⟩ := strK_true h4
    rw [boolF_eq] at h6
    have e1 : ev t x = .string (bytesOf i z) := (ha L t h1 h2).symm.trans (by rw [h3]; rfl)
    have e2 : ev t y = .string (bytesOf j w) := (hb L t h1 h2).symm.trans (by rw [h5]; rfl)
    cases neg with
    | false => exact ⟨_, bin_of e1 e2 rfl rfl (eqGuard_str ..) (by rw [cond_false, bin_str_eql, ← strEq_eq]; rfl) rfl, h6⟩
    | true => exact ⟨_, bin_of e1 e2 rfl rfl (eqGuard_str ..) (by rw [cond_true, bin_str_neq, ← strEq_eq]; rfl) rfl, h6⟩
theorem cat_eq (m z q w : Nat) : bytesOf m z ++ bytesOf q w = bytesOf (m + q) (z % 2 ^ (8 * m) + w * 2 ^ (8 * m)) := by
  apply ByteArray.ext
  rw [ByteArray.data_append]
  apply Array.toList_inj.1
  rw [Array.toList_append]
  show (List.range m).map _ ++ (List.range q).map _ = (List.range (m + q)).map _
  have hpos : 0 < 2 ^ (8 * m) := Nat.two_pow_pos _
  apply List.ext_getElem?
  intro i
  by_cases hi : i < m
  · rw [List.getElem?_append_left (by simpa using hi), List.getElem?_map, List.getElem?_map, List.getElem?_range hi, List.getElem?_range (by omega)]
    simp only [Option.map_some]
    congr 1
    apply u8_ext
    show (z >>> (8 * i)) % 256 = ((z % 2 ^ (8 * m) + w * 2 ^ (8 * m)) >>> (8 * i)) % 256
    rw [Nat.shiftRight_eq_div_pow, Nat.shiftRight_eq_div_pow]
    refine (bytes_num m z _).2 ?_ i hi
    rw [Nat.add_mul_mod_self_right, Nat.mod_mod]
  · by_cases hq : i < m + q
    · rw [List.getElem?_append_right (by simpa using hi), List.getElem?_map, List.getElem?_map, List.length_map, List.length_range, List.getElem?_range (by omega), List.getElem?_range hq]
      simp only [Option.map_some]
      congr 1
      apply u8_ext
      show (w >>> (8 * (i - m))) % 256 = ((z % 2 ^ (8 * m) + w * 2 ^ (8 * m)) >>> (8 * i)) % 256
      rw [Nat.shiftRight_eq_div_pow, Nat.shiftRight_eq_div_pow]
      have e : 2 ^ (8 * i) = 2 ^ (8 * m) * 2 ^ (8 * (i - m)) := by rw [← Nat.pow_add]; congr 1; omega
      rw [e, ← Nat.div_div_eq_div_mul, Nat.add_mul_div_right _ _ hpos, Nat.div_eq_of_lt (Nat.mod_lt _ hpos), Nat.zero_add]
    · rw [List.getElem?_eq_none (by simp; omega), List.getElem?_eq_none (by simp; omega)]
theorem rCat_ok {xt yt : TypeId} {x y : Operand} {a b : Acc} (ha : AccOk n x a) (hb : AccOk n y b) (hk : okOp ⟨dst, .binOp .add xt x y yt, ty, pos, after, guard⟩ = true) : QOk P n ⟨dst, .binOp .add xt x y yt, ty, pos, after, guard⟩ (rCat a b) :=
  QOk.pure hk (fun _ => rfl) fun rec L F k t h1 h2 h => by
    obtain ⟨i, z, h3, h4⟩ := strK_true h
    obtain ⟨j, w, h5, h6⟩ := strK_true h4
    obtain ⟨h7, h8⟩ := ifK_true (show ifK (Nat.ble (Nat.add i j) 9223372036854775807) _ bad = true from h6)
    have hle : i + j ≤ 9223372036854775807 := Nat.le_of_ble_eq_true h7
    have e1 : ev t x = .string (bytesOf i z) := (ha L t h1 h2).symm.trans (by rw [h3]; rfl)
    have e2 : ev t y = .string (bytesOf j w) := (hb L t h1 h2).symm.trans (by rw [h5]; rfl)
    refine ⟨_, (bin_of e1 e2 rfl rfl (eqGuard_str ..) (r := .string (bytesOf i z ++ bytesOf j w)) ?_ rfl).trans (by rw [cat_eq]; rfl), h8⟩
    · rw [binOp_string_add]
      unfold Op.stringOp
      dsimp only
      rw [if_neg (by rw [bytesOf_size, bytesOf_size]; have : IntKind.i64.max = 9223372036854775807 := (by decide); rw [this]; omega)]
      rfl
theorem rByte_ok {xt : TypeId} {x y : Operand} {a b : Acc} (hu : P.underlying xt = some .string) (ha : AccOk n x a) (hb : AccOk n y b) (hk : okOp ⟨dst, .index xt x y, ty, pos, after, guard⟩ = true) : QOk P n ⟨dst, .index xt x y, ty, pos, after, guard⟩ (rByte a b) :=
  QOk.pure hk (fun _ => rfl) fun rec L F k t h1 h2 h => by
    obtain ⟨m, z, h3, h4⟩ := strK_true h
    obtain ⟨j, w, h5, h6⟩ := intK_true h4
    obtain ⟨i, rfl, h7⟩ := natV_true h6
    obtain ⟨h8, h9⟩ := ifK_true h7
    have hi := blt_lt h8
    have e1 := ha L t h1 h2
    have e2 := hb L t h1 h2
    rw [h3] at e1
    rw [h5] at e2
    refine ⟨_, ?_, h9⟩
    show (match ev t x with | .agg _ => _ | _ => freeQ P (ev t) _) = _
    rw [← e1]
    show freeQ P (ev t) ⟨dst, .index xt x y, ty, pos, after, guard⟩ = _
    unfold freeQ
    have e3 : (List.all (Oper.op ⟨dst, .index xt x y, ty, pos, after, guard⟩).operands.toList fun z => free (ev t z)) = true := by
      show List.all [x, y] _ = true
      simp [← e1, ← e2, SV.up, FV.up, free, freeD, leafFree]
    have hget : (bytesOf m z)[i]? = some (UInt8.ofNat (Nat.shiftRight z (8 * i))) := by
      rw [ByteArray.getElem?_lt' _ _ (by rw [bytesOf_size]; exact hi)]
      simp only [bytesOf, ByteArray.getElem_eq_getElem_data]
      simp
    have e4 : pureRun P (execOp (ev t) ⟨dst, .index xt x y, ty, pos, after, guard⟩) = some (.value (.int .u8 (Int.ofNat ((z >>> (8 * i)) % 256)))) := by
      show pureRun P (Sem.bind (Instr.index xt (ev t x) (ev t y)) fun v => Sem.pure (Next.value v)) = _
      rw [← e1, ← e2]
      refine pureRun_bind.2 ⟨.int .u8 (Int.ofNat ((z >>> (8 * i)) % 256)), ?_, rfl⟩
      unfold Instr.index
      refine pureRun_bind.2 ⟨(j, Int.ofNat i), rfl, pureRun_bind.2 ⟨_, run_und hu, ?_⟩⟩
      show pureRun P (match (if 0 ≤ Int.ofNat i then (bytesOf m z)[(Int.ofNat i).toNat]? else none) with | some b => _ | none => _) = _
      rw [if_pos (show (0 : Int) ≤ Int.ofNat i from Int.natCast_nonneg i), show (Int.ofNat i).toNat = i from rfl, hget]
      rfl
    rw [e3, e4]
    rfl
theorem sub_eq {m z l h : Nat} (hl : l ≤ h) (hm : h ≤ m) : (bytesOf m z).extract l h = bytesOf (h - l) ((z >>> (8 * l)) % 2 ^ (8 * (h - l))) := by
  apply ByteArray.ext
  rw [ByteArray.data_extract]
  apply Array.toList_inj.1
  show (Array.extract ⟨(List.range m).map _⟩ l h).toList = (List.range (h - l)).map _
  rw [List.extract_toArray]
  simp only [List.extract_eq_take_drop]
  apply List.ext_getElem?
  intro i
  by_cases hi : i < h - l
  · rw [List.getElem?_take_of_lt hi, List.getElem?_drop, List.getElem?_map, List.getElem?_map, List.getElem?_range (by omega), List.getElem?_range hi]
    simp only [Option.map_some]
    congr 1
    apply u8_ext
    show (z >>> (8 * (l + i))) % 256 = (((z >>> (8 * l)) % 2 ^ (8 * (h - l))) >>> (8 * i)) % 256
    rw [Nat.mul_add, Nat.shiftRight_add, Nat.shiftRight_eq_div_pow _ (8 * i), Nat.shiftRight_eq_div_pow _ (8 * i)]
    exact (bytes_num (h - l) _ _).2 (by rw [Nat.mod_mod]) i hi
  · rw [List.getElem?_eq_none (by simp; omega), List.getElem?_eq_none (by simp; omega)]
end
end
end Go.Proofs.YtnneooidkbhbeaaGreatDoor.Fast
