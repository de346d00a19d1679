/- A fast evaluator, part Y: what a call of plain arguments answers is told once, and taken as told. Of no program. -/
import Derived.Test.YtfeppmhcpfccfaaGreatDoorEvW
set_option linter.unusedVariables false
set_option linter.unusedSimpArgs false
namespace Go.Proofs.YtfeppmhcpfccfaaGreatDoor.Fast
open Go Go.RowKit Go.Proofs.YtfeppmhcpfccfaaGreatDoor.Sim
noncomputable section
/-- a block of a told answer: m rows of s cells -/
structure LB where
  e : TypeId
  s : Nat
  m : Nat
  fam : Bool
  l : List FV
/-- one value of an answer, and an answer; a block bears its number in the list of the answer's blocks -/
inductive L1 where
  | one (x : FV)
  | row (l : List FV)
inductive LV where
  | one (x : L1)
  | tup (l : List L1)
/-- what a function answers, of such arguments -/
structure Memo where
  f : FuncId
  args : List FV
  res : LV
  blks : List LB
def relF (r : Nat → Nat) (x : FV) : FV := match x with
  | .ptr b o => .ptr (r b) o
  | .slc b o n c => .slc (r b) o n c
  | x => x
def relK (d : Nat) (x : FV) (k : FV → R) : R := FV.rec (motive := fun _ => R) (fun b => k (.bool b)) (fun i z => k (.int i z)) (fun n z => k (.str n z)) (fun b o => num (Nat.add d b) fun b => k (.ptr b o)) (fun b o n c => num (Nat.add d b) fun b => k (.slc b o n c)) (fun n c => k (.nilS n c)) (fun g f c => k (.fn g f c)) (fun b => k (.map b)) (fun v => k (.val v)) x
theorem relK_eq (d : Nat) (x : FV) (k : FV → R) : relK d x k = k (relF (fun b => d + b) x) := by cases x <;> rfl
/-- it names blocks of the list alone -/
def okF (L : Nat) (x : FV) : Bool := match x with
  | .bool _ => true
  | .int _ _ => true
  | .str _ _ => true
  | .nilS _ _ => true
  | .ptr b _ => Nat.blt b L
  | .slc b _ _ _ => Nat.blt b L
  | .val v => leafFree v
  | _ => false
def ok1 (L : Nat) (x : L1) : Bool := match x with
  | .one x => okF L x
  | .row l => l.all (okF L) && Nat.ble l.length 64
def okV (L : Nat) (x : LV) : Bool := match x with
  | .one x => ok1 L x
  | .tup l => l.all (ok1 L)
def okB (L : Nat) (x : LB) : Bool := Nat.blt 0 x.s && Nat.ble x.s 64 && Nat.ble x.m 512 && Nat.beq x.l.length (x.m * x.s) && x.l.all (okF L)
def okM (e : Memo) : Bool := Nat.blt e.f yB && Nat.ble e.args.length 512 && e.args.all (okF 0) && okV e.blks.length e.res && e.blks.all (okB e.blks.length)
/-- what it stands for -/
def val1 (r : Nat → Nat) (x : L1) : Value := match x with
  | .one x => (relF r x).up
  | .row l => .agg ⟨l.map fun x => (relF r x).up⟩
def valV (r : Nat → Nat) (x : LV) : Value := match x with
  | .one x => val1 r x
  | .tup l => .tuple ⟨l.map (val1 r)⟩
def abL (r : Nat → Nat) (x : LB) : ABk := ⟨.cells ⟨x.l.map fun x => (relF r x).up⟩ x.e (0, 0), x.fam, false⟩

theorem leaf_eq {ρ : Ren} {v v' : Value} (h : leafFree v = true) (hv : VR ρ v v') : v' = v := by
  refine free_eq (ρ := ρ) ?_ hv
  unfold free
  cases v <;> first | exact h | cases h
theorem oneV_leaf {v : Value} (h : leafFree v = true) : oneV v = v := by cases v <;> first | rfl | cases h
/-- the same, by other names -/
theorem relF_rel {ρ ρ' : Ren} {r r' : Nat → Nat} {L : Nat} (hr : ∀ b i, b < L → ρ (r b) = some i → ρ' (r' b) = some i) {x : FV} (hx : okF L x = true) {v : Value} (h : VR ρ (relF r x).up v) : VR ρ' (relF r' x).up v := by
  cases x with
  | bool b => have h : VR ρ (.bool b) v := h; cases h; exact .bool b
  | int i z => have h : VR ρ (.int i z) v := h; cases h; exact .int i z
  | str n z => have h : VR ρ (.string (bytesOf n z)) v := h; cases h; exact .string _
  | nilS n c => have h : VR ρ (.slice none n c) v := h; cases h; exact .nilSlice n c
  | ptr b o =>
    have h : VR ρ (.pointer (some ⟨r b, o, none⟩)) v := h
    cases h with
    | ptr h' => exact .ptr (hr _ _ (blt_lt hx) h')
  | slc b o n c =>
    have h : VR ρ (.slice (some ⟨r b, o, none⟩) n c) v := h
    cases h with
    | slice h' hc => exact .slice (hr _ _ (blt_lt hx) h') hc
    | edge h' h1 h2 h3 h4 => exact .edge (hr _ _ (blt_lt hx) h') h1 h2 h3 h4
  | fn g f c => cases hx
  | map b => cases hx
  | val u =>
    have hu : leafFree u = true := hx
    have h : VR ρ (oneV u) v := h
    show VR ρ' (oneV u) v
    rw [oneV_leaf hu] at h ⊢
    rw [leaf_eq hu h]
    exact leafFree_rel _ hu
theorem relL_rel {ρ ρ' : Ren} {r r' : Nat → Nat} {L : Nat} (hr : ∀ b i, b < L → ρ (r b) = some i → ρ' (r' b) = some i) {l : List FV} (hl : l.all (okF L) = true) {c : Array Value} (h : AR ρ ⟨l.map fun x => (relF r x).up⟩ c) : AR ρ' ⟨l.map fun x => (relF r' x).up⟩ c := by
  obtain ⟨h1, h2⟩ := h
  have hs : l.length = c.size := by simpa using h1
  refine ⟨by simpa using hs, fun j hj hj' => ?_⟩
  have hj0 : j < l.length := by simpa using hj
  have := h2 j (by simpa using hj0) hj'
  simp only [List.getElem_toArray, List.getElem_map] at this ⊢
  exact relF_rel hr (List.all_eq_true.1 hl _ (List.getElem_mem hj0)) this
theorem val1_rel {ρ ρ' : Ren} {r r' : Nat → Nat} {L : Nat} (hr : ∀ b i, b < L → ρ (r b) = some i → ρ' (r' b) = some i) {x : L1} (hx : ok1 L x = true) {v : Value} (h : VR ρ (val1 r x) v) : VR ρ' (val1 r' x) v := by
  cases x with
  | one x => exact relF_rel hr hx h
  | row l =>
    have hx : (l.all (okF L) && Nat.ble l.length 64) = true := hx
    rw [Bool.and_eq_true] at hx
    have h : VR ρ (.agg ⟨l.map fun x => (relF r x).up⟩) v := h
    cases h with
    | agg h1 h2 => exact VR.mkAgg (relL_rel hr hx.1 ⟨h1, h2⟩)
theorem valV_rel {ρ ρ' : Ren} {r r' : Nat → Nat} {L : Nat} (hr : ∀ b i, b < L → ρ (r b) = some i → ρ' (r' b) = some i) {x : LV} (hx : okV L x = true) {v : Value} (h : VR ρ (valV r x) v) : VR ρ' (valV r' x) v := by
  cases x with
  | one x => exact val1_rel hr hx h
  | tup l =>
    have hx : l.all (ok1 L) = true := hx
    have h : VR ρ (.tuple ⟨l.map (val1 r)⟩) v := h
    cases h with
    | tuple h1 h2 =>
      rename_i c
      have hs : l.length = c.size := by simpa using h1
      refine VR.mkTuple ⟨by simpa using hs, fun j hj hj' => ?_⟩
      have hj0 : j < l.length := by simpa using hj
      have := h2 j (by simpa using hj0) hj'
      simp only [List.getElem_toArray, List.getElem_map] at this ⊢
      exact val1_rel hr (List.all_eq_true.1 hx _ (List.getElem_mem hj0)) this

/-- cells as rows -/
def rowF : List FV → Nat → Ro → Ro
  | [], _, f => f
  | v :: l, i, f => rowF l (i + 1) (Lr.set i v f)
def rowsF (s : Nat) : Nat → List FV → Nat → Rows → Rows
  | 0, _, _, r => r
  | m + 1, l, i, r => rowsF s m (l.drop s) (i + 1) (Lw.set i (rowF (l.take s) 0 row0) r)
theorem rowF_get : ∀ (l : List FV) (i : Nat) (f : Ro) (p : Nat), i + l.length ≤ 64 → p < 64 → Lr.get p (rowF l i f) = if h : i ≤ p ∧ p < i + l.length then l[p - i]'(by omega) else Lr.get p f
  | [], i, f, p, _, _ => by rw [dif_neg (by simp only [List.length_nil]; omega)]; rfl
  | v :: l, i, f, p, hl, hp => by
    simp only [List.length_cons] at hl
    have ih := rowF_get l (i + 1) (Lr.set i v f) p (by omega) hp
    show Lr.get p (rowF l (i + 1) (Lr.set i v f)) = _
    rw [ih]
    by_cases h : i + 1 ≤ p ∧ p < i + 1 + l.length
    · rw [dif_pos h, dif_pos (by simp only [List.length_cons]; omega)]
      rw [List.getElem_cons, dif_neg (by omega)]
      congr 1
    · rw [dif_neg h, Lr_set _ _ (by omega) hp]
      by_cases he : p = i
      · subst he
        rw [if_pos rfl, dif_pos (by simp only [List.length_cons]; omega)]
        simp only [Nat.sub_self, List.getElem_cons_zero]
      · rw [if_neg he, dif_neg (by simp only [List.length_cons]; omega)]
theorem rowF_at {l : List FV} (hl : l.length ≤ 64) {p : Nat} (hp : p < l.length) (f : Ro) : l[p]? = some (Lr.get p (rowF l 0 f)) := by
  rw [rowF_get l 0 f p (by omega) (by omega), dif_pos (by omega), List.getElem?_eq_getElem hp]
  simp
theorem rowsF_get (s : Nat) : ∀ (m : Nat) (l : List FV) (i : Nat) (r : Rows) (q : Nat), i + m ≤ 512 → q < 512 → Lw.get q (rowsF s m l i r) = if i ≤ q ∧ q < i + m then rowF ((l.drop ((q - i) * s)).take s) 0 row0 else Lw.get q r
  | 0, l, i, r, q, _, _ => by rw [if_neg (by omega)]; rfl
  | m + 1, l, i, r, q, hm, hq => by
    show Lw.get q (rowsF s m (l.drop s) (i + 1) (Lw.set i (rowF (l.take s) 0 row0) r)) = _
    rw [rowsF_get s m _ _ _ q (by omega) hq]
    by_cases h : i + 1 ≤ q ∧ q < i + 1 + m
    · rw [if_pos h, if_pos (by omega), List.drop_drop]
      congr 3
      have : q - i = (q - (i + 1)) + 1 := by omega
      rw [this, Nat.add_mul]
      omega
    · rw [if_neg h, Lw_set _ _ (by omega) hq]
      by_cases he : q = i
      · subst he
        rw [if_pos rfl, if_pos (by omega), Nat.sub_self, Nat.zero_mul]
        rfl
      · rw [if_neg he, if_neg (by omega)]
theorem rowsF_cell {s m : Nat} {l : List FV} (hs : 0 < s) (hs2 : s ≤ 64) (hm : m ≤ 512) (hl : l.length = m * s) {j : Nat} (hj : j < m * s) (r : Rows) : l[j]? = some (cellAt (rowsF s m l 0 r) s j) := by
  have hd := div_lt_of hj
  have hmod := Nat.mod_lt j hs
  have hdm : j / s * s + j % s = j := by rw [Nat.mul_comm]; exact Nat.div_add_mod j s
  have hle : j / s * s + s ≤ m * s := by rw [← Nat.succ_mul]; exact Nat.mul_le_mul_right _ hd
  unfold cellAt
  generalize j / s = q at *
  generalize j % s = r' at *
  rw [rowsF_get s m l 0 r _ (by omega) (by omega), if_pos (by omega), Nat.sub_zero]
  have hlen : ((l.drop (q * s)).take s).length = s := by rw [List.length_take, List.length_drop]; omega
  rw [← rowF_at (by omega) (by omega) row0, List.getElem?_take_of_lt hmod, List.getElem?_drop, hdm]
def rowM (d : Nat) : List FV → Nat → Ro → (Ro → R) → R
  | [], _, f, k => k f
  | v :: l, i, f, k => relK d v fun v => (w64 FV i).put v f fun f => num (Nat.succ i) fun i => rowM d l i f k
theorem rowM_eq (d : Nat) : ∀ (l : List FV) (i : Nat) (f : Ro) (k : Ro → R), i + l.length ≤ 64 → rowM d l i f k = k (rowF (l.map (relF fun b => d + b)) i f)
  | [], _, _, _, _ => rfl
  | v :: l, i, f, k, h => by
    have h : i + (l.length + 1) ≤ 64 := h
    unfold rowM
    rw [relK_eq, w64_put (by omega), num_eq, rowM_eq d l (Nat.succ i) _ k (by omega)]
    rfl
def rowsM (d s : Nat) : Nat → List FV → Nat → Rows → (Rows → R) → R
  | 0, _, _, r, k => k r
  | m + 1, l, i, r, k => rowM d (l.take s) 0 row0 fun x => (w512 Ro i).put x r fun r => num (Nat.succ i) fun i => rowsM d s m (l.drop s) i r k
theorem rowsM_eq (d s : Nat) (hs : s ≤ 64) : ∀ (m : Nat) (l : List FV) (i : Nat) (r : Rows) (k : Rows → R), i + m ≤ 512 → rowsM d s m l i r k = k (rowsF s m (l.map (relF fun b => d + b)) i r)
  | 0, _, _, _, _, _ => rfl
  | m + 1, l, i, r, k, h => by
    unfold rowsM
    rw [rowM_eq d _ _ _ _ (by rw [List.length_take]; omega), w512_put (by omega), num_eq, rowsM_eq d s hs m _ _ _ k (by omega), List.map_take, List.map_drop]
    rfl
def blksM (d : Nat) : List LB → FM → (FM → R) → R
  | [], F, k => k F
  | x :: l, F, k => rowsM d x.s x.m x.l 0 rows0 fun r => newF (.blk r x.m x.s x.e x.fam false) F fun _ F => blksM d l F k
def oneM (d : Nat) (x : L1) (k : SV → R) : R := match x with
  | .one x => relK d x fun x => k (.val x)
  | .row l => rowM d l 0 row0 fun f => num l.length fun n => k (.row n f)
def tupM (d : Nat) : List L1 → (SV → R) → R
  | [], k => k .nil
  | x :: l, k => oneM d x fun a => tupM d l fun b => k (.cons a b)
def resM (d : Nat) (x : LV) (k : SV → R) : R := match x with
  | .one x => oneM d x k
  | .tup l => tupM d l k
/-- blocks more -/
def addAll : AW → List ABk → AW
  | A, [] => A
  | A, x :: l => addAll (A.add x) l
theorem addAll_next : ∀ (l : List ABk) (A : AW), (addAll A l).next = A.next + l.length
  | [], _ => rfl
  | x :: l, A => by
    show (addAll (A.add x) l).next = A.next + (l.length + 1)
    rw [addAll_next l]
    show A.next + 1 + l.length = _
    omega
theorem addAll_get : ∀ (l : List ABk) (A : AW), A.next + l.length + 1 < 2 ^ Sim.bits → (∀ b x, A.heap.get b = some x → b < A.next) → ∀ c, (addAll A l).heap.get c = if c < A.next then A.heap.get c else l[c - A.next]?
  | [], A, _, hA, c => by
    show A.heap.get c = _
    split
    · rfl
    · rename_i hc
      cases hg : A.heap.get c with
      | none => rfl
      | some x => exact absurd (hA c x hg) hc
  | x :: l, A, hr, hA, c => by
    have hr : A.next + (l.length + 1) + 1 < 2 ^ Sim.bits := hr
    have hn : (A.add x).next = A.next + 1 := rfl
    show (addAll (A.add x) l).heap.get c = _
    rw [addAll_get l (A.add x) (by rw [hn]; omega) (fun b y hb => by
      rw [add_get (by omega)] at hb
      rw [hn]
      split at hb
      · omega
      · have := hA b y hb; omega), hn, add_get (by omega)]
    by_cases h1 : c < A.next
    · rw [if_pos (by omega), if_pos h1, if_neg (by omega)]
    · rw [if_neg h1]
      by_cases h2 : c = A.next
      · subst h2
        rw [if_pos (by omega), if_pos rfl, Nat.sub_self]
        rfl
      · rw [if_neg (by omega), show c - A.next = (c - (A.next + 1)) + 1 by omega]
        rfl
theorem blksM_true {d L : Nat} : ∀ (l : List LB) {F : FM} {A : AW} {k : FM → R}, l.all (okB L) = true → MR F A → blksM d l F k = true → ∃ F', MR F' (addAll A (l.map (abL fun b => d + b))) ∧ k F' = true
  | [], F, A, k, _, hM, h => ⟨F, hM, h⟩
  | x :: l, F, A, k, hl, hM, h => by
    rw [List.all_cons, Bool.and_eq_true] at hl
    obtain ⟨h1, h2⟩ := hl
    unfold okB at h1
    simp only [Bool.and_eq_true] at h1
    obtain ⟨⟨⟨⟨q1, q2⟩, q3⟩, q4⟩, q5⟩ := h1
    have q1 := blt_lt q1
    have q2 := Nat.le_of_ble_eq_true q2
    have q3 := Nat.le_of_ble_eq_true q3
    have q4 := beq_eq q4
    unfold blksM at h
    rw [rowsM_eq d x.s q2 _ _ _ _ _ (by omega)] at h
    obtain ⟨h3, h4⟩ := newF_true h
    have hlen : (x.l.map (relF fun b => d + b)).length = x.m * x.s := by rw [List.length_map]; exact q4
    exact blksM_true l h2 (hM.add h3 (y := abL (fun b => d + b) x) (.blk q1 q2 q3 (by show (Array.size ⟨_⟩) = _; simpa using q4) fun j hj => by
      have := rowsF_cell q1 q2 q3 hlen hj rows0
      show ((⟨x.l.map fun x => (relF (fun b => d + b) x).up⟩ : Array Value))[j]? = _
      rw [List.getElem?_toArray, List.getElem?_map]
      rw [List.getElem?_map] at this
      cases hx : x.l[j]? with
      | none => rw [hx] at this; cases this
      | some u =>
        rw [hx] at this
        injection this with this
        rw [← this]
        rfl)) h4
theorem rowM_up {d L : Nat} {l : List FV} (hl : l.length ≤ 64) : rowL (rowF (l.map (relF fun b => d + b)) 0 row0) l.length = l.map fun x => (relF (fun b => d + b) x).up := by
  apply List.ext_getElem?
  intro p
  rw [rowL_get, List.getElem?_map]
  by_cases hp : p < l.length
  · have := rowF_at (l := l.map (relF fun b => d + b)) (by rw [List.length_map]; exact hl) (p := p) (by rw [List.length_map]; exact hp) row0
    rw [List.getElem?_map, List.getElem?_eq_getElem hp] at this
    injection this with this
    rw [if_pos hp, ← this, List.getElem?_eq_getElem hp]
    rfl
  · rw [if_neg hp, List.getElem?_eq_none (by omega)]
    rfl
theorem oneM_true {d L : Nat} {x : L1} {k : SV → R} (hx : ok1 L x = true) (h : oneM d x k = true) : ∃ s : SV, k s = true ∧ s.up = val1 (fun b => d + b) x ∧ ∀ r : SV, SV.tl (.cons s r) = s.up :: r.tl := by
  cases x with
  | one x =>
    have h : relK d x (fun x => k (.val x)) = true := h
    rw [relK_eq] at h
    exact ⟨_, h, rfl, fun _ => rfl⟩
  | row l =>
    have hx : (l.all (okF L) && Nat.ble l.length 64) = true := hx
    rw [Bool.and_eq_true] at hx
    have h6 := Nat.le_of_ble_eq_true hx.2
    have h : rowM d l 0 row0 (fun f => num l.length fun n => k (.row n f)) = true := h
    rw [rowM_eq d _ _ _ _ (by omega), num_eq] at h
    refine ⟨_, h, ?_, fun _ => rfl⟩
    show Value.agg ⟨rowL _ _⟩ = .agg ⟨_⟩
    rw [rowM_up (L := L) h6]
theorem tupM_true {d L : Nat} : ∀ (l : List L1) {k : SV → R}, l.all (ok1 L) = true → tupM d l k = true → ∃ s : SV, k s = true ∧ s.tl = l.map (val1 fun b => d + b) ∧ s.up = .tuple ⟨s.tl⟩
  | [], k, _, h => ⟨.nil, h, rfl, rfl⟩
  | x :: l, k, hl, h => by
    rw [List.all_cons, Bool.and_eq_true] at hl
    obtain ⟨s, h1, h2, h3⟩ := oneM_true hl.1 (show oneM d x (fun a => tupM d l fun b => k (.cons a b)) = true from h)
    obtain ⟨t, g1, g2, g3⟩ := tupM_true l hl.2 h1
    refine ⟨.cons s t, g1, ?_, rfl⟩
    rw [h3, h2, g2]
    rfl
theorem resM_true {d L : Nat} {x : LV} {k : SV → R} (hx : okV L x = true) (h : resM d x k = true) : ∃ s : SV, k s = true ∧ s.up = valV (fun b => d + b) x := by
  cases x with
  | one x =>
    obtain ⟨s, h1, h2, _⟩ := oneM_true (x := x) hx h
    exact ⟨s, h1, h2⟩
  | tup l =>
    obtain ⟨s, h1, h2, h3⟩ := tupM_true l hx h
    refine ⟨s, h1, ?_⟩
    rw [h3, h2]
    rfl
/-- the answer, where the memory stands -/
def hitK (e : Memo) (F : FM) (k : SV → FM → R) : R := num F.next fun d => ifK (Nat.ble (Nat.add d e.blks.length) 262143) (blksM d e.blks F fun F => resM d e.res fun v => k v F) bad
theorem hitK_true {e : Memo} (he : okM e = true) {F : FM} {A : AW} {k : SV → FM → R} (hM : MR F A) (h : hitK e F k = true) : A.next + e.blks.length ≤ 262143 ∧ Post k (valV (fun b => A.next + b) e.res) (addAll A (e.blks.map (abL fun b => A.next + b))) := by
  unfold okM at he
  simp only [Bool.and_eq_true] at he
  obtain ⟨⟨⟨⟨_, _⟩, _⟩, h4⟩, h5⟩ := he
  unfold hitK at h
  rw [num_eq] at h
  obtain ⟨g1, g2⟩ := ifK_true h
  obtain ⟨F', g3, g4⟩ := blksM_true e.blks h5 hM g2
  obtain ⟨s, g5, g6⟩ := resM_true h4 g4
  rw [hM.next]
  exact ⟨Nat.le_of_ble_eq_true g1, s, F', g6, g3, g5⟩
/-- arguments -/
def argF : List FV → Nat → Sl → Sl
  | [], _, f => f
  | v :: l, i, f => argF l (i + 1) (Ls.set i (.val v) f)
def argP : List FV → Nat → Sl → (Sl → R) → R
  | [], _, f, k => k f
  | v :: l, i, f, k => (w512 SV i).put (.val v) f fun f => num (Nat.succ i) fun i => argP l i f k
theorem argP_eq : ∀ (l : List FV) (i : Nat) (f : Sl) (k : Sl → R), i + l.length ≤ 512 → argP l i f k = k (argF l i f)
  | [], _, _, _, _ => rfl
  | v :: l, i, f, k, h => by
    have h : i + (l.length + 1) ≤ 512 := h
    unfold argP
    rw [w512_put (by omega), num_eq, argP_eq l (Nat.succ i) _ k (by omega)]
    rfl
theorem argF_get : ∀ (l : List FV) (i : Nat) (f : Sl) (p : Nat), i + l.length ≤ 512 → p < 512 → Ls.get p (argF l i f) = if h : i ≤ p ∧ p < i + l.length then .val (l[p - i]'(by omega)) else Ls.get p f
  | [], i, f, p, _, _ => by rw [dif_neg (by simp only [List.length_nil]; omega)]; rfl
  | v :: l, i, f, p, hl, hp => by
    simp only [List.length_cons] at hl
    have ih := argF_get l (i + 1) (Ls.set i (.val v) f) p (by omega) hp
    show Ls.get p (argF l (i + 1) (Ls.set i (.val v) f)) = _
    rw [ih]
    by_cases h : i + 1 ≤ p ∧ p < i + 1 + l.length
    · rw [dif_pos h, dif_pos (by simp only [List.length_cons]; omega)]
      congr 1
      rw [List.getElem_cons, dif_neg (by omega)]
      congr 1
    · rw [dif_neg h, Ls_set _ _ (by omega) hp]
      by_cases he : p = i
      · subst he
        rw [if_pos rfl, dif_pos (by simp only [List.length_cons]; omega)]
        simp only [Nat.sub_self, List.getElem_cons_zero]
      · rw [if_neg he, dif_neg (by simp only [List.length_cons]; omega)]
def nilsK (S : Sl) (yes no : R) (m : Nat) : Nat → R := Nat.rec (motive := fun _ => Nat → R) (fun _ => yes) (fun _ ih j => ifK (Nat.blt j 512) (SV.rec (motive := fun _ => R) (fun _ => no) (fun _ _ => no) (num (Nat.succ j) fun j => ih j) (fun _ _ _ _ => no) ((w512 SV j).get S)) no) m
theorem nilsK_true {S : Sl} {yes no : R} : ∀ (m j : Nat), nilsK S yes no m j = true → no = true ∨ yes = true ∧ ∀ d, j ≤ d → d < j + m → Ls.get d S = .nil
  | 0, j, h => .inr ⟨h, fun d h1 h2 => by omega⟩
  | m + 1, j, h => by
    have h : ifK (Nat.blt j 512) (SV.rec (motive := fun _ => R) (fun _ => no) (fun _ _ => no) (num (Nat.succ j) fun j => nilsK S yes no m j) (fun _ _ _ _ => no) ((w512 SV j).get S)) no = true := h
    cases hj : Nat.blt j 512 with
    | false => rw [hj] at h; exact .inl h
    | true =>
      rw [hj] at h
      have h : SV.rec (motive := fun _ => R) (fun _ => no) (fun _ _ => no) (num (Nat.succ j) fun j => nilsK S yes no m j) (fun _ _ _ _ => no) ((w512 SV j).get S) = true := h
      rw [w512_get (blt_lt hj)] at h
      have e : (L512 SV).get j S = Ls.get j S := rfl
      rw [e] at h
      cases hx : Ls.get j S with
      | val => rw [hx] at h; exact .inl h
      | row => rw [hx] at h; exact .inl h
      | cons => rw [hx] at h; exact .inl h
      | nil =>
        rw [hx] at h
        rcases nilsK_true m (j + 1) h with h1 | ⟨h1, h2⟩
        · exact .inl h1
        · refine .inr ⟨h1, fun d h3 h4 => ?_⟩
          by_cases hd : d = j
          · rw [hd]; exact hx
          · exact h2 d (by omega) (by omega)
def argsK (S : Sl) (yes no : R) (l : List FV) : Nat → R := List.rec (motive := fun _ => Nat → R) (fun i => nilsK S yes no (Nat.sub 512 i) i)
  (fun v _ ih i => ifK (Nat.blt i 512) (SV.rec (motive := fun _ => R) (fun x => ifK (eqF x v) (num (Nat.succ i) fun i => ih i) no) (fun _ _ => no) no (fun _ _ _ _ => no) ((w512 SV i).get S)) no) l
theorem argsK_true {S : Sl} {yes no : R} : ∀ (l : List FV) (i : Nat), argsK S yes no l i = true → no = true ∨ yes = true ∧ (∀ d (h : d < l.length), SV.up (Ls.get (i + d) S) = (l[d]).up) ∧ ∀ d, i + l.length ≤ d → d < 512 → Ls.get d S = .nil
  | [], i, h => by
    rcases nilsK_true _ _ (show nilsK S yes no (512 - i) i = true from h) with h1 | ⟨h1, h2⟩
    · exact .inl h1
    · exact .inr ⟨h1, fun d h => absurd h (Nat.not_lt_zero d), fun d h3 h4 => h2 d h3 (by omega)⟩
  | v :: l, i, h => by
    have h : ifK (Nat.blt i 512) (SV.rec (motive := fun _ => R) (fun x => ifK (eqF x v) (num (Nat.succ i) fun i => argsK S yes no l i) no) (fun _ _ => no) no (fun _ _ _ _ => no) ((w512 SV i).get S)) no = true := h
    cases hj : Nat.blt i 512 with
    | false => rw [hj] at h; exact .inl h
    | true =>
      rw [hj] at h
      have h : SV.rec (motive := fun _ => R) (fun x => ifK (eqF x v) (num (Nat.succ i) fun i => argsK S yes no l i) no) (fun _ _ => no) no (fun _ _ _ _ => no) ((w512 SV i).get S) = true := h
      rw [w512_get (blt_lt hj)] at h
      have e : (L512 SV).get i S = Ls.get i S := rfl
      rw [e] at h
      cases hx : Ls.get i S with
      | row => rw [hx] at h; exact .inl h
      | cons => rw [hx] at h; exact .inl h
      | nil => rw [hx] at h; exact .inl h
      | val x =>
        rw [hx] at h
        have h : ifK (eqF x v) (num (Nat.succ i) fun i => argsK S yes no l i) no = true := h
        cases hq : eqF x v with
        | false => rw [hq] at h; exact .inl h
        | true =>
          rw [hq] at h
          rcases argsK_true l (i + 1) h with h1 | ⟨h1, h2, h3⟩
          · exact .inl h1
          · refine .inr ⟨h1, fun d hd => ?_, fun d h4 h5 => h3 d (by have : (v :: l).length = l.length + 1 := rfl; omega) h5⟩
            cases d with
            | zero => rw [Nat.add_zero, hx]; exact eqF_up hq
            | succ d => rw [show i + (d + 1) = i + 1 + d by omega]; exact h2 d (by simpa using hd)
/-- a call: told, or gone through -/
def memoL (f : FuncId) (S : Sl) (F : FM) (k : SV → FM → R) (no : R) (l : List Memo) : R := List.rec (motive := fun _ => R) no (fun e _ ih => ifK (Nat.beq e.f f) (argsK S (hitK e F k) ih e.args 0) ih) l
theorem memoL_true {f : FuncId} {S : Sl} {F : FM} {k : SV → FM → R} {no : R} : ∀ (l : List Memo), memoL f S F k no l = true → no = true ∨ ∃ e ∈ l, e.f = f ∧ hitK e F k = true ∧ (∀ d (h : d < e.args.length), SV.up (Ls.get d S) = (e.args[d]).up) ∧ ∀ d, e.args.length ≤ d → d < 512 → Ls.get d S = .nil
  | [], h => .inl h
  | e :: l, h => by
    have h : ifK (Nat.beq e.f f) (argsK S (hitK e F k) (memoL f S F k no l) e.args 0) (memoL f S F k no l) = true := h
    have ih := memoL_true (f := f) (S := S) (F := F) (k := k) (no := no) l
    have rest : memoL f S F k no l = true → no = true ∨ ∃ x ∈ e :: l, x.f = f ∧ hitK x F k = true ∧ (∀ d (h : d < x.args.length), SV.up (Ls.get d S) = (x.args[d]).up) ∧ ∀ d, x.args.length ≤ d → d < 512 → Ls.get d S = .nil := by
      intro h
      rcases ih h with h | ⟨x, h1, h2⟩
      · exact .inl h
      · exact .inr ⟨x, List.mem_cons_of_mem _ h1, h2⟩
    cases hq : Nat.beq e.f f with
    | false => rw [hq] at h; exact rest h
    | true =>
      rw [hq] at h
      rcases argsK_true e.args 0 h with h | ⟨h1, h2, h3⟩
      · exact rest h
      · exact .inr ⟨e, List.mem_cons_self, beq_eq hq, h1, fun d hd => by have := h2 d hd; rwa [Nat.zero_add] at this, fun d h4 h5 => h3 d (by omega) h5⟩
/-- a deferred call that does nothing where no panic is under way -/
def noopL (f : FuncId) (yes no : R) (l : List FuncId) : R := List.rec (motive := fun _ => R) no (fun d _ ih => ifK (Nat.beq (Nat.add dB d) f) yes ih) l
theorem noopL_true {f : FuncId} {yes no : R} : ∀ (l : List FuncId), noopL f yes no l = true → no = true ∨ (yes = true ∧ ∃ d ∈ l, dB + d = f)
  | [], h => .inl h
  | d :: l, h => by
    have h : ifK (Nat.beq (Nat.add dB d) f) yes (noopL f yes no l) = true := h
    cases hq : Nat.beq (Nat.add dB d) f with
    | true => rw [hq] at h; exact .inr ⟨h, d, List.mem_cons_self, beq_eq hq⟩
    | false =>
      rw [hq] at h
      rcases noopL_true l h with h | ⟨h1, e, h2, h3⟩
      · exact .inl h
      · exact .inr ⟨h1, e, List.mem_cons_of_mem _ h2, h3⟩
def memoK (Ms : List Memo) (Ds : List FuncId) (body : Rc) : Rc := fun f S F k => memoL f S F k (noopL f (k .nil F) (body f S F k) Ds) Ms
def callM (Ms : List Memo) (Ds : List FuncId) (gl : Nat → Bool) (P : Program) (fuel : Nat) (n : Nat) : Rc := Nat.rec (motive := fun _ => Rc) (fun _ _ _ _ => Fast.bad) (fun _ ih => memoK Ms Ds (bodyF gl P fuel ih)) n
/-- is the answer what is told? the blocks' names are those of a list -/
def chkRow (r : Nat → Nat) : List FV → Nat → Ro → Bool
  | [], _, _ => true
  | x :: l, i, f => eqF ((w64 FV i).get f) (relF r x) && chkRow r l (i + 1) f
def chk1 (r : Nat → Nat) (x : L1) (s : SV) : Bool := match x, s with
  | .one x, .val v => eqF v (relF r x)
  | .row l, .row n f => Nat.beq n l.length && Nat.ble n 64 && chkRow r l 0 f
  | _, _ => false
def chkT (r : Nat → Nat) : List L1 → SV → Bool
  | [], .nil => true
  | x :: l, .cons a b => chk1 r x a && chkT r l b
  | _, _ => false
def chkV (r : Nat → Nat) (x : LV) (s : SV) : Bool := match x with
  | .one x => chk1 r x s
  | .tup l => chkT r l s
def chkCells (r : Nat → Nat) (s : Nat) : List FV → Nat → Rows → Bool
  | [], _, _ => true
  | x :: l, j, rows => eqF ((wCell j s).get rows) (relF r x) && chkCells r s l (j + 1) rows
def eqBo (a b : Bool) : Bool := Bool.rec (motive := fun _ => Bool) (Bool.not b) b a
def chkBs (r : Nat → Nat) : List LB → List Nat → FM → R
  | [], _, _ => true
  | x :: l, b :: nm, F => blkK b F fun rows n esz e fam ro => ifK (Nat.beq n x.m && Nat.beq esz x.s && Nat.beq e x.e && eqBo fam x.fam && Bool.not ro && Nat.beq x.l.length (n * esz) && chkCells r esz x.l 0 rows) (chkBs r l nm F) bad
  | _, [], _ => bad
def nodupB : List Nat → Bool
  | [] => true
  | a :: l => !(l.any (Nat.beq a)) && nodupB l
def told (e : Memo) (nm : List Nat) (v : SV) (F : FM) : R := ifK (nodupB nm && chkV (fun b => nm.getD b 0) e.res v) (chkBs (fun b => nm.getD b 0) e.blks nm F) bad
def runMD (Ds : List FuncId) (P : Program) (T : List TabE) (N fuel n : Nat) (Ms : List Memo) (e : Memo) (nm : List Nat) : R := ifK (okM e) (startP T heap0 fun H => argP e.args 0 slots0 fun S => callM Ms Ds (glT T) P fuel n e.f S ⟨H, N⟩ (told e nm)) bad
def runM (P : Program) (T : List TabE) (N fuel n : Nat) (Ms : List Memo) (e : Memo) (nm : List Nat) : R := runMD [] P T N fuel n Ms e nm
theorem nodupB_ok : ∀ {l : List Nat}, nodupB l = true → l.Nodup
  | [], _ => List.nodup_nil
  | a :: l, h => by
    have h : (!(l.any (Nat.beq a)) && nodupB l) = true := h
    rw [Bool.and_eq_true, Bool.not_eq_true'] at h
    refine List.nodup_cons.2 ⟨fun hm => ?_, nodupB_ok h.2⟩
    have : l.any (Nat.beq a) = true := List.any_eq_true.2 ⟨a, hm, Nat.beq_refl a⟩
    rw [this] at h
    cases h.1
theorem chkRow_up (r : Nat → Nat) : ∀ (l : List FV) (i : Nat) (f : Ro), i + l.length ≤ 64 → chkRow r l i f = true → ∀ p (h : p < l.length), (Lr.get (i + p) f).up = (relF r l[p]).up
  | [], _, _, _, _, p, h => by cases h
  | x :: l, i, f, hi, h, p, hp => by
    have hi : i + (l.length + 1) ≤ 64 := hi
    have h : (eqF ((w64 FV i).get f) (relF r x) && chkRow r l (i + 1) f) = true := h
    rw [Bool.and_eq_true, w64_get (by omega)] at h
    cases p with
    | zero => exact eqF_up h.1
    | succ p =>
      have := chkRow_up r l (i + 1) f (by omega) h.2 p (by simpa using hp)
      rw [show i + (p + 1) = i + 1 + p by omega]
      exact this
theorem chk1_up {r : Nat → Nat} {x : L1} {s : SV} (h : chk1 r x s = true) : s.up = val1 r x ∧ ∀ t : SV, SV.tl (.cons s t) = s.up :: t.tl := by
  unfold chk1 at h
  split at h
  · exact ⟨eqF_up h, fun _ => rfl⟩
  · rename_i l n f
    simp only [Bool.and_eq_true] at h
    obtain ⟨⟨h1, h2⟩, h3⟩ := h
    obtain rfl := beq_eq h1
    have h64 := Nat.le_of_ble_eq_true h2
    refine ⟨?_, fun _ => rfl⟩
    show Value.agg ⟨rowL f _⟩ = .agg ⟨_⟩
    congr 2
    apply List.ext_getElem?
    intro p
    rw [rowL_get, List.getElem?_map]
    by_cases hp : p < l.length
    · have := chkRow_up r l 0 f (by omega) h3 p hp
      rw [Nat.zero_add] at this
      rw [if_pos hp, this, List.getElem?_eq_getElem hp]
      rfl
    · rw [if_neg hp, List.getElem?_eq_none (by omega)]
      rfl
  · cases h
theorem chkT_tl {r : Nat → Nat} : ∀ {l : List L1} {s : SV}, chkT r l s = true → s.tl = l.map (val1 r) ∧ s.up = .tuple ⟨s.tl⟩
  | [], .nil, _ => ⟨rfl, rfl⟩
  | x :: l, .cons a b, h => by
    have h : (chk1 r x a && chkT r l b) = true := h
    rw [Bool.and_eq_true] at h
    obtain ⟨h1, h2⟩ := chk1_up h.1
    refine ⟨?_, rfl⟩
    rw [h2, h1, (chkT_tl h.2).1]
    rfl
  | [], .val _, h => by cases h
  | [], .row _ _, h => by cases h
  | [], .cons _ _, h => by cases h
  | _ :: _, .val _, h => by cases h
  | _ :: _, .row _ _, h => by cases h
  | _ :: _, .nil, h => by cases h
theorem chkV_up {r : Nat → Nat} {x : LV} {s : SV} (h : chkV r x s = true) : s.up = valV r x := by
  cases x with
  | one x => exact (chk1_up (x := x) h).1
  | tup l =>
    obtain ⟨h1, h2⟩ := chkT_tl (l := l) h
    rw [h2, h1]
    rfl
theorem chkCells_up (r : Nat → Nat) {n s : Nat} (h0 : 0 < s) (h1 : s ≤ 64) (h2 : n ≤ 512) : ∀ (l : List FV) (j : Nat) (rows : Rows), j + l.length ≤ n * s → chkCells r s l j rows = true → ∀ p (h : p < l.length), (cellAt rows s (j + p)).up = (relF r l[p]).up
  | [], _, _, _, _, p, h => by cases h
  | x :: l, j, rows, hj, h, p, hp => by
    have hj : j + (l.length + 1) ≤ n * s := hj
    have h : (eqF ((wCell j s).get rows) (relF r x) && chkCells r s l (j + 1) rows) = true := h
    rw [Bool.and_eq_true, wCell_get (n := n) (by omega) h0 h1 h2] at h
    cases p with
    | zero => exact eqF_up h.1
    | succ p =>
      have := chkCells_up r h0 h1 h2 l (j + 1) rows (by omega) h.2 p (by simpa using hp)
      rw [show j + (p + 1) = j + 1 + p by omega]
      exact this
theorem chkBs_true {r : Nat → Nat} {F : FM} {A : AW} (hM : MR F A) : ∀ (l : List LB) (nm : List Nat), chkBs r l nm F = true → l.length ≤ nm.length ∧ ∀ (i : Nat) (x : LB) (b : Nat), l[i]? = some x → nm[i]? = some b → A.heap.get b = some (abL r x)
  | [], nm, _ => ⟨Nat.zero_le _, fun i x b h => by simp at h⟩
  | x :: l, [], h => not_bad h
  | x :: l, b :: nm, h => by
    have h : blkK b F (fun rows n esz e fam ro => ifK (Nat.beq n x.m && Nat.beq esz x.s && Nat.beq e x.e && eqBo fam x.fam && Bool.not ro && Nat.beq x.l.length (n * esz) && chkCells r esz x.l 0 rows) (chkBs r l nm F) bad) = true := h
    obtain ⟨hb, rows, n, esz, e, fam, ro, h1, h2⟩ := blkK_true h
    obtain ⟨h3, h4⟩ := ifK_true h2
    simp only [Bool.and_eq_true] at h3
    obtain ⟨⟨⟨⟨⟨⟨q1, q2⟩, q3⟩, q4⟩, q5⟩, q6⟩, q7⟩ := h3
    obtain ⟨c, hc⟩ := hM.at hb h1
    have q1 := beq_eq q1
    have q2 := beq_eq q2
    have q3 : e = x.e := beq_eq q3
    have q4 : fam = x.fam := by revert q4; cases fam <;> cases x.fam <;> decide
    have q5 : ro = false := by revert q5; cases ro <;> decide
    have q6 := beq_eq q6
    have ih := chkBs_true hM l nm h4
    refine ⟨by have := ih.1; simp only [List.length_cons]; omega, fun i y d hy hd => ?_⟩
    cases i with
    | zero =>
      have hy : x = y := by simpa using hy
      have hd : b = d := by simpa using hd
      subst hy hd
      rw [hc.get]
      unfold abL
      subst q5
      rw [← q3, ← q4]
      congr 3
      apply Array.ext_getElem?
      intro j
      rw [show (⟨x.l.map fun x => (relF r x).up⟩ : Array Value)[j]? = (x.l.map fun x => (relF r x).up)[j]? from List.getElem?_toArray .., List.getElem?_map]
      by_cases hj : j < n * esz
      · have := chkCells_up r hc.h0 hc.h1 hc.h2 x.l 0 rows (by omega) q7 j (by omega)
        rw [Nat.zero_add] at this
        rw [hc.cell j hj, this, List.getElem?_eq_getElem (by omega)]
        rfl
      · rw [Array.getElem?_eq_none (by rw [hc.size]; omega), List.getElem?_eq_none (by omega)]
        rfl
    | succ i => exact ih.2 i y d (by simpa using hy) (by simpa using hd)
section
variable {P : Program} {B : Nat}
theorem OR_rel {ρ ρ' : Ren} {r r' : Nat → Nat} {L : Nat} (hr : ∀ b i, b < L → ρ (r b) = some i → ρ' (r' b) = some i) {y : LB} (hy : y.l.all (okF L) = true) {i : Info} {o' : Obj} (h : OR P ρ i (abL r y) o') : i.ro = false ∧ OR P ρ' i (abL r' y) o' := by
  obtain ⟨e, s, m, fam, l⟩ := y
  unfold abL at h ⊢
  dsimp only at h hy ⊢
  cases h with
  | exact hro hl hc hf hsh => exact ⟨hro, .exact hro hl (relL_rel hr hy hc) hf hsh⟩
  | loose hro hl hs hle hc hf he hu0 =>
    refine ⟨hro, .loose hro hl hs (by simpa using hle) (fun j v hv => ?_) hf he hu0⟩
    rw [List.getElem?_toArray, List.getElem?_map] at hv
    cases hu : l[j]? with
    | none => rw [hu] at hv; cases hv
    | some u =>
      rw [hu] at hv
      injection hv with hv
      obtain ⟨v', h1, h2⟩ := hc j (relF r u).up (by rw [List.getElem?_toArray, List.getElem?_map, hu]; rfl)
      exact ⟨v', h1, by rw [← hv]; exact relF_rel hr (List.all_eq_true.1 hy u (List.mem_of_getElem? hu)) h2⟩
theorem free_leaf {v : Value} (h : leafFree v = true) : free v = true := by
  unfold free
  cases v <;> first | exact h | cases h
theorem okF_leaf {x : FV} (h : okF 0 x = true) : free x.up = true := by
  cases x with
  | bool => rfl
  | int => rfl
  | str => rfl
  | nilS => rfl
  | ptr b o => exact absurd (blt_lt h) (Nat.not_lt_zero b)
  | slc b o n c => exact absurd (blt_lt h) (Nat.not_lt_zero b)
  | fn g f c => cases h
  | map b => cases h
  | val v =>
    have hv : leafFree v = true := h
    show free (oneV v) = true
    rw [oneV_leaf hv]
    exact free_leaf hv
/-- the tables stand at the walk's beginning -/
def Stands (T : List TabE) (B : Nat) (w0 : Base) : Prop := ∀ t ∈ T, t.g < B ∧ ∃ e f, w0.w.heap[t.g]? = some (.cells ⟨t.l⟩ e f)
/-- what is told is so, in every world where the tables stand -/
def MemoOk (P : Program) (T : List TabE) (e : Memo) : Prop := okM e = true ∧ ∀ (w : World), StandT T w → ∀ args : Array Value, ArgR (argF e.args 0 slots0) args → Calls P e.f args w fun x w' =>
  ∃ (nm : List Nat) (ρ' : Ren) (v' : Value) (A' : AW) (b0 : Base), x = .returned v' ∧ SR P w.heap.size b0 ρ' A' w' ∧ b0.w = w ∧ VR ρ' (valV (fun b => nm.getD b 0) e.res) v' ∧ nm.Nodup ∧ e.blks.length ≤ nm.length ∧
    ∀ (i : Nat) (x : LB) (b : Nat), e.blks[i]? = some x → nm[i]? = some b → A'.heap.get b = some (abL (fun b => nm.getD b 0) x)
theorem okM_of {e : Memo} (h : okM e = true) : e.f < yB ∧ e.args.length ≤ 512 ∧ e.args.all (okF 0) = true ∧ okV e.blks.length e.res = true ∧ ∀ y ∈ e.blks, y.l.all (okF e.blks.length) = true := by
  unfold okM at h
  simp only [Bool.and_eq_true] at h
  obtain ⟨⟨⟨⟨h1, h2⟩, h3⟩, h4⟩, h5⟩ := h
  refine ⟨blt_lt h1, Nat.le_of_ble_eq_true h2, h3, h4, fun y hy => ?_⟩
  have := List.all_eq_true.1 h5 y hy
  unfold okB at this
  simp only [Bool.and_eq_true] at this
  exact this.2
theorem arg_free {e : Memo} (he : okM e = true) {args : Array Value} (hA : ArgR (argF e.args 0 slots0) args) {d : Nat} {v : Value} (hv : args[d]? = some v) : free v = true := by
  obtain ⟨_, h2, h3, _, _⟩ := okM_of he
  have hd : d < args.size := (Array.getElem?_eq_some_iff.1 hv).1
  have h512 := hA.size
  have := hA.get d hd
  rw [hv, argF_get _ _ _ _ (by omega) (by omega)] at this
  injection this with this
  rw [this]
  by_cases q : d < e.args.length
  · rw [dif_pos (by omega)]
    exact okF_leaf (List.all_eq_true.1 h3 _ (List.getElem_mem _))
  · rw [dif_neg (by omega), show Ls.get d slots0 = u0 from r8_at _ _ (by omega)]
    show free undef = true
    exact (by simp [free, freeD, undef] : free (.tuple #[]) = true)
/-- a call that is told -/
theorem memo_ok {T : List TabE} {e : Memo} (he : MemoOk P T e) {w0 : Base} (hst : Stands T B w0) {S : Sl} {F : FM} {A : AW} {args : Array Value} {k : SV → FM → R} (hS : ArgR S args) (hM : MR F A)
    (h1 : ∀ d (h : d < e.args.length), SV.up (Ls.get d S) = (e.args[d]).up) (h2 : ∀ d, e.args.length ≤ d → d < 512 → Ls.get d S = .nil) (h : hitK e F k = true) : CallS P B w0 e.f args A (Post k) := by
  obtain ⟨hm, hc⟩ := he
  obtain ⟨_, hlen, hok, hres, hbl⟩ := okM_of hm
  have hsl : ∀ d, d < 512 → SV.up (Ls.get d S) = SV.up (Ls.get d (argF e.args 0 slots0)) := by
    intro d hd
    rw [argF_get _ _ _ _ (by omega) hd]
    by_cases q : d < e.args.length
    · rw [dif_pos (by omega), h1 d q]
      rfl
    · rw [dif_neg (by omega), h2 d (by omega) hd, show Ls.get d slots0 = u0 from r8_at _ _ hd]
      rfl
  have hA : ArgR (argF e.args 0 slots0) args := ⟨hS.size, fun d hd => by rw [hS.get d hd, hsl d (by have := hS.size; omega)], fun d q1 q2 => by rw [← hsl d q2]; exact hS.rest d q1 q2⟩
  intro Γ M ρ w args' hs hargs
  have harg : args' = args := by
    apply Array.ext_getElem?
    intro d
    rcases hargs.get? d with ⟨g1, g2⟩ | ⟨v, v', g1, g2, g3⟩
    · rw [g1, g2]
    · rw [g1, g2, free_eq (arg_free hm hA g1) g3]
  subst harg
  have hw : StandT T w := fun t ht => by
    obtain ⟨q1, e', f, q2⟩ := hst t ht
    exact ⟨e', f, (hs.below.block t.g q1).trans q2⟩
  obtain ⟨hb, hp⟩ := hitK_true hm hM h
  refine (hc w hw args' hA).mono ?_
  rintro x w' ⟨nm, ρ1, v', A1, b0, rfl, hs1, hb0, hv, hnd, hln, hblk⟩
  obtain ⟨ρ2, hρ2⟩ : ∃ ρ2 : Ren, ρ2 = fun c => if c < A.next then ρ c else if c < A.next + e.blks.length then ρ1 (nm.getD (c - A.next) 0) else none := ⟨_, rfl⟩
  have hr : ∀ b i, b < e.blks.length → ρ1 (nm.getD b 0) = some i → ρ2 (A.next + b) = some i := by
    intro b i hb hi
    rw [hρ2]
    dsimp only
    rw [if_neg (by omega), if_pos (by omega), show A.next + b - A.next = b by omega]
    exact hi
  have hle : ρ.le ρ2 := fun b i hb => by
    rw [hρ2]
    dsimp only
    rw [if_pos (hs.dom b i hb)]
    exact hb
  have hbel : Below w.heap.size w w' := by
    have := hs1.below
    rwa [hb0] at this
  have hBle : B ≤ w.heap.size := Nat.le_trans hs.low hs.below.size
  have h30 : 2 ^ Sim.bits = 1073741824 := by decide
  have hlm : (e.blks.map (abL fun b => A.next + b)).length = e.blks.length := List.length_map ..
  have hget := addAll_get (e.blks.map (abL fun b => A.next + b)) A (by rw [hlm]; omega) hs.lt
  have hnext : (addAll A (e.blks.map (abL fun b => A.next + b))).next = A.next + e.blks.length := by rw [addAll_next, hlm]
  have hnew : ∀ c x i, A.next ≤ c → (addAll A (e.blks.map (abL fun b => A.next + b))).heap.get c = some x → ρ2 c = some i →
      ∃ p b y, c = A.next + p ∧ nm[p]? = some b ∧ p < nm.length ∧ ρ1 b = some i ∧ A1.heap.get b = some y ∧ w.heap.size ≤ i.g ∧ ∃ o', w'.heap[i.g]? = some o' ∧ OR P ρ2 i x o' := by
    intro c x i hc hx hi
    rw [hget c, if_neg (by omega), List.getElem?_map] at hx
    cases hy : e.blks[c - A.next]? with
    | none => rw [hy] at hx; cases hx
    | some y =>
      rw [hy] at hx
      injection hx with hx
      have hp : c - A.next < e.blks.length := (List.getElem?_eq_some_iff.1 hy).1
      have hpn : c - A.next < nm.length := by omega
      rw [hρ2] at hi
      dsimp only at hi
      rw [if_neg (by omega), if_pos (by omega), List.getD_eq_getElem?_getD, List.getElem?_eq_getElem hpn] at hi
      have hi : ρ1 (nm[c - A.next]) = some i := hi
      have hA1 := hblk _ y _ hy (List.getElem?_eq_getElem hpn)
      obtain ⟨q1, o', q2, q3⟩ := hs1.blk _ _ i hA1 hi
      obtain ⟨q4, q5⟩ := OR_rel hr (hbl y (List.mem_of_getElem? hy)) q3
      refine ⟨c - A.next, _, _, by omega, List.getElem?_eq_getElem hpn, hpn, hi, hA1, ?_, o', q2, by rw [← hx]; exact q5⟩
      rcases q1 with q1 | q1
      · rw [q4] at q1; cases q1
      · exact q1
  have hold : ∀ c x i, c < A.next → (addAll A (e.blks.map (abL fun b => A.next + b))).heap.get c = some x → ρ2 c = some i → A.heap.get c = some x ∧ ρ c = some i ∧ i.g < w.heap.size := by
    intro c x i hc hx hi
    rw [hget c, if_pos hc] at hx
    rw [hρ2] at hi
    dsimp only at hi
    rw [if_pos hc] at hi
    obtain ⟨_, o', q2, _⟩ := hs.blk c x i hx hi
    exact ⟨hx, hi, (Array.getElem?_eq_some_iff.1 q2).1⟩
  refine ⟨ρ2, valV (fun b => A.next + b) e.res, v', addAll A (e.blks.map (abL fun b => A.next + b)), rfl, hp, hle, ?_, valV_rel hr hres hv⟩
  refine ⟨hs.below.trans ⟨hbel.os, hbel.tape, hbel.output, hbel.size, fun k hk => hbel.block k (by omega)⟩, hs.low, fun c i hi => ?_, by rw [hnext]; omega, fun c x hx => ?_, fun c x hx => ?_, fun c x i hx hi => ?_, fun c d x y i j hx hy hi hj hg => ?_, fun g hg => ?_, ⟨hs.marks.1, fun r hr' => ?_⟩⟩
  · rw [hnext]
    rw [hρ2] at hi
    dsimp only at hi
    split at hi
    · omega
    · split at hi
      · omega
      · cases hi
  · rw [hnext]
    rw [hget c] at hx
    split at hx
    · omega
    · have : c - A.next < (e.blks.map (abL fun b => A.next + b)).length := (List.getElem?_eq_some_iff.1 hx).1
      rw [hlm] at this
      omega
  · obtain ⟨q1, q2⟩ := hs.off c x hx
    have hlt := hs.lt c x q2
    rw [hget c, hρ2]
    dsimp only
    rw [if_pos hlt, if_pos hlt]
    exact ⟨q1, q2⟩
  · by_cases hlt : c < A.next
    · obtain ⟨q1, q2, q3⟩ := hold c x i hlt hx hi
      obtain ⟨q4, o', q5, q6⟩ := hs.blk c x i q1 q2
      exact ⟨q4, o', (hbel.block _ q3).trans q5, q6.mono hle⟩
    · obtain ⟨p, b, y, _, _, _, _, _, q5, q6⟩ := hnew c x i (by omega) hx hi
      exact ⟨.inr (by omega), q6⟩
  · by_cases hc : c < A.next
    · obtain ⟨q1, q2, q3⟩ := hold c x i hc hx hi
      by_cases hd : d < A.next
      · obtain ⟨r1, r2, r3⟩ := hold d y j hd hy hj
        exact hs.apart c d x y i j q1 r1 q2 r2 hg
      · obtain ⟨_, _, _, _, _, _, _, _, q5, _⟩ := hnew d y j (by omega) hy hj
        omega
    · obtain ⟨p, b, z, q1, q2, q3, q4, q5, q6, _⟩ := hnew c x i (by omega) hx hi
      by_cases hd : d < A.next
      · obtain ⟨r1, r2, r3⟩ := hold d y j hd hy hj
        omega
      · obtain ⟨p', b', z', r1, r2, r3, r4, r5, r6, _⟩ := hnew d y j (by omega) hy hj
        have hbb := hs1.apart b b' z z' i j q5 r5 q4 r4 hg
        subst hbb
        have : p = p' := (List.getElem?_inj q3 hnd).1 (by rw [q2, r2])
        omega
  · obtain ⟨i, q1, q2⟩ := hs.glo g hg
    exact ⟨i, hle g i q1, q2⟩
  · obtain ⟨m1, m2, m3⟩ := hs.marks.2 r hr'
    have hlt : r < w.heap.size := (Array.getElem?_eq_some_iff.1 m2).1
    refine ⟨m1, (hbel.block r hlt).trans m2, fun c x i hx hi => ?_⟩
    by_cases hc : c < A.next
    · obtain ⟨q1, q2, q3⟩ := hold c x i hc hx hi
      exact m3 c x i q1 q2
    · obtain ⟨_, _, _, _, _, _, _, _, q5, _⟩ := hnew c x i (by omega) hx hi
      omega
theorem bodyF_eq (gl : Nat → Bool) (P : Program) (fuel : Nat) (rec : Rc) : bodyF gl P fuel rec = bodyK gl P fuel rec := by
  have hc : compF gl P = compC gl P := by
    funext m c
    exact compF_eq gl P m c
  unfold bodyF bodyK
  simp only [decFnF_eq, hc]
/-- what a deferred call of such a function does: nothing -/
def Idle (P : Program) (d : FuncId) : Prop := ∀ (args : Array Value) (w : World), CallsDIn Fence.wide 0 P d args .returning w fun e u w' => u = .returning ∧ e = .returned undef ∧ w' = w
theorem idle_ok {d : FuncId} (h : Idle P d) {w0 : Base} {args : Array Value} {A : AW} {F : FM} {k : SV → FM → R} (hM : MR F A) (hk : k .nil F = true) : CallD P B w0 d args A (Post k) := by
  intro Γ M ρ w args' hs _
  refine (h args' w).mono ?_
  rintro e u w' ⟨h1, rfl, rfl⟩
  exact ⟨h1, ρ, undef, undef, A, rfl, ⟨.nil, F, rfl, hM, hk⟩, Ren.le_refl _, hs, undef_rel ρ⟩
theorem callM_ok (G : Sim.Good P) (hBld : BldOk P) {T : List TabE} {Ms : List Memo} {Ds : List FuncId} (hMs : ∀ e ∈ Ms, MemoOk P T e) (hDs : ∀ d ∈ Ds, Idle P d) (fuel : Nat) : ∀ (m : Nat) (w0 : Base), Stands T B w0 → RcOk P B w0 (callM Ms Ds w0.gl P fuel m) := by
  intro m
  induction m with
  | zero => exact fun w0 _ => ⟨hBld, fun f S F A args k _ _ _ h => not_bad h, fun b S F A args k lp _ _ _ _ _ h => not_bad h, fun f S F A args k _ _ _ h => not_bad h⟩
  | succ m ih =>
    intro w0 hst
    have hb : RcOk P B w0 (bodyK w0.gl P fuel (callM Ms Ds w0.gl P fuel m)) := body_ok G hBld fuel w0 fun r => ih (w0.at r) hst
    refine ⟨hBld, fun f S F A args k hlt hS hM h => ?_, fun b S F A args k lp hlt hS hM hA hsz h => ?_, fun f S F A args k hlt hS hM h => ?_⟩
    · have h : memoL f S F k (noopL f (k .nil F) (bodyF w0.gl P fuel (callM Ms Ds w0.gl P fuel m) f S F k) Ds) Ms = true := h
      rcases memoL_true Ms h with h1 | ⟨e, he, rfl, h2, h3, h4⟩
      · rcases noopL_true Ds h1 with h1 | ⟨_, d, _, hd⟩
        · rw [bodyF_eq] at h1
          exact hb.2.1 f S F A args k hlt hS hM h1
        · exact absurd (show dB + d < yB by rw [hd]; exact hlt) (Nat.not_lt.2 (Nat.le_trans (by decide) (Nat.le_add_right dB d)))
      · exact memo_ok (hMs e he) hst hS hM h3 h4 h2
    · have h : memoL (yB + b) S F k (noopL (yB + b) (k .nil F) (bodyF w0.gl P fuel (callM Ms Ds w0.gl P fuel m) (yB + b) S F k) Ds) Ms = true := h
      rcases memoL_true Ms h with h1 | ⟨e, he, h2, _⟩
      · rcases noopL_true Ds h1 with h1 | ⟨_, d, _, hd⟩
        · rw [bodyF_eq] at h1
          exact hb.2.2.1 b S F A args k lp hlt hS hM hA hsz h1
        · have h8 : dB + d < dB := by
            rw [hd]
            exact Nat.lt_of_lt_of_le (Nat.add_lt_add_left hlt yB) (by decide)
          exact absurd h8 (Nat.not_lt.2 (Nat.le_add_right dB d))
      · exact absurd (okM_of (hMs e he).1).1 (by rw [h2]; exact Nat.not_lt.2 (Nat.le_add_right _ _))
    · have h : memoL (dB + f) S F k (noopL (dB + f) (k .nil F) (bodyF w0.gl P fuel (callM Ms Ds w0.gl P fuel m) (dB + f) S F k) Ds) Ms = true := h
      rcases memoL_true Ms h with h1 | ⟨e, he, h2, _⟩
      · rcases noopL_true Ds h1 with h9 | ⟨h9, d, hd, hd2⟩
        · rw [bodyF_eq] at h9
          exact hb.2.2.2 f S F A args k hlt hS hM h9
        · have hdf : d = f := Nat.add_left_cancel hd2
          rw [← hdf]
          exact idle_ok (hDs d hd) hM h9
      · exact absurd (okM_of (hMs e he).1).1 (by rw [h2]; exact Nat.not_lt.2 (Nat.le_trans (by decide) (Nat.le_add_right dB f)))
/-- WHAT A RUN SHOWS IS TOLD: from the tables, with what was told ahead of it -/
theorem tellsMD (G : Sim.Good P) (hBld : BldOk P) {T : List TabE} {N fuel m : Nat} {Ms : List Memo} {Ds : List FuncId} {e : Memo} {nm : List Nat} (hN : Nat.ble N 262143 = true) (hT : T.all (TabE.ok N) = true) (hMs : ∀ e ∈ Ms, MemoOk P T e) (hDs : ∀ d ∈ Ds, Idle P d) (h : runMD Ds P T N fuel m Ms e nm = true) : MemoOk P T e := by
  have hN' : N ≤ 262143 := Nat.le_of_ble_eq_true hN
  unfold runMD at h
  obtain ⟨he, h⟩ := ifK_true h
  obtain ⟨hf, hlen, _, _, _⟩ := okM_of he
  refine ⟨he, fun w hw args hA => ?_⟩
  rw [startP_eq (N := N) (by omega) T _ _ hT, argP_eq _ _ _ _ (by omega)] at h
  have hM : MR ⟨heapT T heap0, N⟩ (memA T ⟨.leaf, N⟩) := memT (N := N) (by omega) T _ _ N hT ⟨rfl, fun b hb => emptyF_ok.blk b hb⟩
  have hst : Stands T w.heap.size ⟨w, fun _ _ => False, glT T, none, []⟩ := fun t ht => by
    obtain ⟨e', f, h⟩ := hw t ht
    exact ⟨(Array.getElem?_eq_some_iff.1 h).1, e', f, h⟩
  have hself : AR (renT T) args args := ⟨rfl, fun j hj _ => freeD_rel _ 4 (arg_free he hA (Array.getElem?_eq_getElem hj))⟩
  have := (callM_ok (B := w.heap.size) G hBld hMs hDs fuel m ⟨w, fun _ _ => False, glT T, none, []⟩ hst).2.1 e.f (argF e.args 0 slots0) ⟨heapT T heap0, N⟩ (memA T ⟨.leaf, N⟩) args _ hf hA hM h
  refine (this (fun _ _ => False) [] _ w args (standT hN' hT hw) hself).mono ?_
  rintro x w' ⟨ρ', v, v', A', g1, ⟨sv, F', q1, q2, q3⟩, g3, g4, g5⟩
  unfold told at q3
  obtain ⟨c1, c2⟩ := ifK_true q3
  rw [Bool.and_eq_true] at c1
  obtain ⟨c3, c4⟩ := chkBs_true q2 e.blks nm c2
  refine ⟨nm, ρ', v', A', _, g1, g4, rfl, ?_, nodupB_ok c1.1, c3, c4⟩
  rw [← chkV_up c1.2, q1]
  exact g5
theorem tellsM (G : Sim.Good P) (hBld : BldOk P) {T : List TabE} {N fuel m : Nat} {Ms : List Memo} {e : Memo} {nm : List Nat} (hN : Nat.ble N 262143 = true) (hT : T.all (TabE.ok N) = true) (hMs : ∀ e ∈ Ms, MemoOk P T e) (h : runM P T N fuel m Ms e nm = true) : MemoOk P T e :=
  tellsMD G hBld hN hT hMs (Ds := []) (fun d hd => (by cases hd)) h
/-- true, of no arguments -/
def sayM (f : FuncId) : Memo := ⟨f, [], .one (.one (.bool true)), []⟩
theorem MemoOk.says {T : List TabE} {f : FuncId} (h : MemoOk P T (sayM f)) {w : World} (hw : StandT T w) : Calls P f #[] w fun e w' => e = .returned (.bool true) ∧ Below w.heap.size w w' := by
  refine (h.2 w hw #[] slots0_arg).mono ?_
  rintro x w' ⟨nm, ρ', v', A', b0, rfl, g1, g2, g3, _⟩
  have g3 : VR ρ' (.bool true) v' := g3
  have hb := g1.below
  rw [g2] at hb
  cases g3 with
  | bool => exact ⟨rfl, hb⟩
end
end
end Go.Proofs.YtfeppmhcpfccfaaGreatDoor.Fast
