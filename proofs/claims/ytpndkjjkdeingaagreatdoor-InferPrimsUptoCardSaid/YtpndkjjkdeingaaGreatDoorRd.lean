/- Nested Go data (ints, bools, strings, structs, slices of these) as one Lean value, and what it means that a value in memory reads as it. Of no program. -/
import Derived.Test.YtpndkjjkdeingaaGreatDoorKit
import Derived.Test.YtpndkjjkdeingaaGreatDoorRows
import Derived.Deep.Slices
import Derived.ChangeArms
set_option linter.unusedVariables false
set_option linter.unusedSimpArgs false
namespace Go.Proofs.YtpndkjjkdeingaaGreatDoor
open Go.RowKit Go.ChangeShapes Go.WideShapes

/-- what lies in one cell: a slice is of so many elements, each of 'size' cells, laid flat -/
inductive D where
  | int (k : IntKind) (z : Int)
  | bool (b : Bool)
  | str (s : ByteArray)
  | list (size n : Nat) (ds : List D)

mutual
def D.wt : D → Nat
  | .int _ _ => 1
  | .bool _ => 1
  | .str s => s.size + 1
  | .list _ _ ds => D.wts ds + 1
def D.wts : List D → Nat
  | [] => 0
  | d :: r => d.wt + D.wts r
end

/-- the value v, in the world w, below block B, reads as d -/
inductive Rd (w : World) (B : Nat) : Value → D → Prop
  | int {k : IntKind} {z : Int} (h : (Lit.int k z).wf = true) : Rd w B (.int k z) (.int k z)
  | bool {b : Bool} : Rd w B (.bool b) (.bool b)
  | str {s : ByteArray} (h : s.size ≤ maxLen) : Rd w B (.string s) (.str s)
  | list {size n : Nat} {v : Value} {xs : List Value} {ds : List D} (h : Row w B size v n xs) (hl : ds.length = xs.length) (he : ∀ (j : Nat) (u : Value) (d : D), xs[j]? = some u → ds[j]? = some d → Rd w B u d) : Rd w B v (.list size n ds)

/-- cells read as a list -/
def Rds (w : World) (B : Nat) (us : List Value) (ds : List D) : Prop := ds.length = us.length ∧ ∀ (j : Nat) (u : Value) (d : D), us[j]? = some u → ds[j]? = some d → Rd w B u d

theorem Rd.keep {w w' : World} {B : Nat} {v : Value} {d : D} (h : Rd w B v d) (hb : Below B w w') : Rd w' B v d := by
  induction h with
  | int h => exact .int h
  | bool => exact .bool
  | str h => exact .str h
  | list h hl _ ih => exact .list (h.below hb) hl ih

theorem Rd.mono {w : World} {B B' : Nat} {v : Value} {d : D} (h : Rd w B v d) (hB : B ≤ B') : Rd w B' v d := by
  induction h with
  | int h => exact .int h
  | bool => exact .bool
  | str h => exact .str h
  | list h hl _ ih => exact .list (h.mono hB) hl ih

theorem Rds.keep {w w' : World} {B : Nat} {us : List Value} {ds : List D} (h : Rds w B us ds) (hb : Below B w w') : Rds w' B us ds := ⟨h.1, fun j u d hu hd => (h.2 j u d hu hd).keep hb⟩
theorem Rds.mono {w : World} {B B' : Nat} {us : List Value} {ds : List D} (h : Rds w B us ds) (hB : B ≤ B') : Rds w B' us ds := ⟨h.1, fun j u d hu hd => (h.2 j u d hu hd).mono hB⟩
theorem Rds.nil {w : World} {B : Nat} : Rds w B [] [] := ⟨rfl, fun j u d hu => by simp at hu⟩
theorem Rds.cons {w : World} {B : Nat} {u : Value} {us : List Value} {d : D} {ds : List D} (h : Rd w B u d) (hs : Rds w B us ds) : Rds w B (u :: us) (d :: ds) :=
  ⟨by simp [hs.1], fun j u' d' hu hd => by
    cases j with
    | zero => simp at hu hd; subst hu hd; exact h
    | succ j => simp at hu hd; exact hs.2 j _ _ hu hd⟩
theorem Rds.cons_inv {w : World} {B : Nat} {us : List Value} {d : D} {ds : List D} (h : Rds w B us (d :: ds)) : ∃ u us', us = u :: us' ∧ Rd w B u d ∧ Rds w B us' ds := by
  obtain ⟨hl, he⟩ := h
  cases us with
  | nil => simp at hl
  | cons u us => exact ⟨u, us, rfl, he 0 u d rfl rfl, by simpa using hl, fun j u' d' hu hd => he (j + 1) u' d' (by simpa using hu) (by simpa using hd)⟩
theorem Rds.nil_inv {w : World} {B : Nat} {us : List Value} (h : Rds w B us []) : us = [] := by
  have := h.1; simp at this; exact List.eq_nil_of_length_eq_zero this.symm
theorem Rds.append {w : World} {B : Nat} {us us' : List Value} {ds ds' : List D} (h : Rds w B us ds) (h' : Rds w B us' ds') : Rds w B (us ++ us') (ds ++ ds') := by
  refine ⟨by simp [h.1, h'.1], fun j u d hu hd => ?_⟩
  by_cases hj : j < us.length
  · rw [List.getElem?_append_left hj] at hu
    rw [List.getElem?_append_left (by rw [h.1]; exact hj)] at hd
    exact h.2 j u d hu hd
  · rw [List.getElem?_append_right (by omega)] at hu
    rw [List.getElem?_append_right (by rw [h.1]; omega), h.1] at hd
    exact h'.2 _ u d hu hd
theorem Rd.list_inv {w : World} {B : Nat} {v : Value} {size n : Nat} {ds : List D} (h : Rd w B v (.list size n ds)) : ∃ xs, Row w B size v n xs ∧ Rds w B xs ds := by
  cases h with
  | list h hl he => exact ⟨_, h, hl, he⟩
theorem Rd.mk {w : World} {B : Nat} {v : Value} {size n : Nat} {ds : List D} {xs : List Value} (h : Row w B size v n xs) (h' : Rds w B xs ds) : Rd w B v (.list size n ds) := .list h h'.1 h'.2
theorem Rd.int_inv {w : World} {B : Nat} {v : Value} {k : IntKind} {z : Int} (h : Rd w B v (.int k z)) : v = .int k z ∧ (Lit.int k z).wf = true := by cases h with | int h => exact ⟨rfl, h⟩
theorem Rd.bool_inv {w : World} {B : Nat} {v : Value} {b : Bool} (h : Rd w B v (.bool b)) : v = .bool b := by cases h; rfl
theorem Rd.str_inv {w : World} {B : Nat} {v : Value} {s : ByteArray} (h : Rd w B v (.str s)) : v = .string s ∧ s.size ≤ maxLen := by cases h with | str h => exact ⟨rfl, h⟩
theorem Rd.slice_inv {w : World} {B : Nat} {v : Value} {size n : Nat} {ds : List D} (h : Rd w B v (.list size n ds)) : ∃ a cap, v = .slice a n cap := by
  obtain ⟨xs, hr, _⟩ := h.list_inv
  exact hr.slice
theorem Rd.len_inv {w : World} {B : Nat} {v : Value} {size n : Nat} {ds : List D} (h : Rd w B v (.list size n ds)) : ds.length = n * size ∧ n ≤ maxLen := by
  obtain ⟨xs, hr, hl, _⟩ := h.list_inv
  exact ⟨hl.trans hr.1, hr.2.1⟩

/-- the flat cells of a list of structs -/
theorem flat_len {α β : Type} (f : α → List β) (k : Nat) (hf : ∀ x, (f x).length = k) : ∀ l : List α, (l.flatMap f).length = l.length * k
  | [] => by simp
  | x :: l => by simp only [List.flatMap_cons, List.length_append, hf, flat_len f k hf l, List.length_cons, Nat.succ_mul]; omega
theorem flat_get {α β : Type} (f : α → List β) (k : Nat) (hf : ∀ x, (f x).length = k) : ∀ (l : List α) (i j : Nat) (h : i < l.length), j < k → (l.flatMap f)[i * k + j]? = (f l[i])[j]?
  | x :: l, 0, j, h, hj => by
    simp only [List.flatMap_cons, Nat.zero_mul, Nat.zero_add, List.getElem_cons_zero]
    rw [List.getElem?_append_left (by rw [hf]; exact hj)]
  | x :: l, i + 1, j, h, hj => by
    simp only [List.flatMap_cons, List.getElem_cons_succ]
    have hk : k ≤ (i + 1) * k + j := by rw [Nat.succ_mul]; omega
    rw [List.getElem?_append_right (by rw [hf]; exact hk), hf]
    have : (i + 1) * k + j - k = i * k + j := by rw [Nat.succ_mul]; omega
    rw [this]
    exact flat_get f k hf l i j (by simpa using h) hj
theorem flat_take {α β : Type} (f : α → List β) (k : Nat) (hf : ∀ x, (f x).length = k) (l : List α) (i : Nat) (h : i < l.length) : ((l.flatMap f).drop (i * k)).take k = f l[i] := by
  apply List.ext_getElem?
  intro j
  by_cases hj : j < k
  · rw [List.getElem?_take_of_lt hj, List.getElem?_drop, flat_get f k hf l i j h hj]
  · rw [List.getElem?_eq_none (by simp; omega), List.getElem?_eq_none (by rw [hf]; omega)]

/-- an element of a slice of structs: where it lies, and what its cells read as -/
theorem Rd.elem {α : Type} {w : World} {B k : Nat} {v : Value} {f : α → List D} {l : List α} {n : Nat} (h : Rd w B v (.list k n (l.flatMap f))) (hf : ∀ x, (f x).length = k) (hn : n = l.length) (i : Nat) (hi : i < l.length) (hk : 0 < k) :
    ∃ b off cap us, v = .slice (some ⟨b, off, none⟩) l.length cap ∧ b < B ∧ l.length ≤ cap ∧ (∀ j u, us[j]? = some u → w.cell? ⟨b, off + i * k + j, none⟩ = some u) ∧ Rds w B us (f l[i]) := by
  subst hn
  obtain ⟨xs, ⟨hx, hm, hr⟩, hl, he⟩ := h.list_inv
  rcases hr with ⟨h0, _⟩ | ⟨b, off, cap, rfl, hb, hc, hcell⟩
  · omega
  refine ⟨b, off, cap, (xs.drop (i * k)).take k, rfl, hb, hc, fun j u hu => ?_, ?_, fun j u d hu hd => ?_⟩
  · rw [List.getElem?_take] at hu
    split at hu
    · rw [List.getElem?_drop] at hu
      rw [Nat.add_assoc]; exact hcell _ _ hu
    · cases hu
  · have : i * k + k ≤ l.length * k := by rw [← Nat.succ_mul]; exact Nat.mul_le_mul_right _ hi
    rw [hf, List.length_take, List.length_drop, hx]; omega
  · rw [List.getElem?_take] at hu
    split at hu
    · rename_i hjk
      rw [List.getElem?_drop] at hu
      exact he _ u d hu (by rw [flat_get f k hf l i j hi hjk]; exact hd)
    · cases hu

/-! ### From the form's own reading -/
/-- the shape that a type gives -/
inductive Has (P : Program) : TypeId → List D → Prop
  | int {t k z} (h : P.underlying t = some (.int k)) (hw : (Lit.int k z).wf = true) : Has P t [.int k z]
  | bool {t b} (h : P.underlying t = some .bool) : Has P t [.bool b]
  | str {t s} (h : P.underlying t = some .string) (hs : s.size ≤ maxLen) : Has P t [.str s]
  | slice {t e} {n : Nat} {ds : List D} (h : P.underlying t = some (.slice e)) (hl : ds.length = n * P.cellsOf e) (he : ∀ i, i < n → Has P e ((ds.drop (i * P.cellsOf e)).take (P.cellsOf e))) : Has P t [.list (P.cellsOf e) n ds]
  | struct {t fs} {ds : List D} (h : P.underlying t = some (.struct fs)) (hl : ds.length = P.cellsOf t) (he : ∀ (i : Nat) (f : Field), fs[i]? = some f → Has P f.type ((ds.drop f.offset).take (P.cellsOf f.type))) : Has P t ds

section
variable {H : Type} {enc : TypeId × Value → H} {P : Program} {w : World} {base : Nat} {spare : Nat → Bool} {held : Bool}

/-- a list of D for a list of cells, chunk by chunk -/
theorem cells_of_add (a : Addr) (w : World) (i : Nat) (u : Value) (h : w.cell? (a.add i) = some u) (h0 : ∃ u0, w.cell? (a.add 0) = some u0) : w.cell? ⟨a.block, a.off + i, none⟩ = some u := by
  obtain ⟨u0, h0⟩ := h0
  have hs : a.spot = none := by
    have : a.add 0 = a := by simp [Addr.add]
    rw [this] at h0
    unfold World.cell? at h0
    split at h0
    · split at h0
      · cases h0
      · rename_i hn; simpa using hn
    · cases h0
  have : a.add i = ⟨a.block, a.off + i, none⟩ := by
    unfold Addr.add
    split
    · rename_i h; subst h; cases a; simp at hs; subst hs; simp
    · rfl
  rw [← this]; exact h

/-- a set of types that is closed, and plain -/
def lays (P : Program) : List Field → Nat → Nat → Bool
  | [], o, n => o == n
  | f :: r, o, n => f.offset == o && lays P r (o + P.cellsOf f.type) n
def plainT (P : Program) (ok : List TypeId) (t : TypeId) : Bool :=
  match P.underlying t with
  | some .bool => true
  | some (.int _) => true
  | some .string => true
  | some (.slice e) => ok.contains e && decide (0 < P.cellsOf e)
  | some (.struct fs) => fs.toList.all (fun f => ok.contains f.type) && lays P fs.toList 0 (P.cellsOf t)
  | _ => false
def plainAll (P : Program) (ok : List TypeId) : Bool := ok.all (plainT P ok)

theorem wts_append (a b : List D) : D.wts (a ++ b) = D.wts a + D.wts b := by
  induction a with
  | nil => simp [D.wts]
  | cons d a ih => simp only [List.cons_append, D.wts, ih]; omega
theorem wts_flat {ι : Type} (f : ι → List D) (g : ι → DataW H) (hfg : ∀ i, D.wts (f i) ≤ Rows.uptoBulk (g i)) : ∀ l : List ι, D.wts (l.flatMap f) ≤ Rows.uptoBulkAll (l.map g)
  | [] => by simp [D.wts]
  | i :: l => by
    have := wts_flat f g hfg l
    have := hfg i
    simp only [List.flatMap_cons, wts_append, List.map_cons, Rows.uptoBulkAll]; omega
theorem wts_flat_mem {ι : Type} (f : ι → List D) (g : ι → DataW H) : ∀ (l : List ι), (∀ i ∈ l, D.wts (f i) ≤ Rows.uptoBulk (g i)) → D.wts (l.flatMap f) ≤ Rows.uptoBulkAll (l.map g)
  | [], _ => by simp [D.wts]
  | i :: l, h => by
    have := wts_flat_mem f g l (fun j hj => h j (List.mem_cons_of_mem _ hj))
    have := h i (List.mem_cons_self ..)
    simp only [List.flatMap_cons, wts_append, List.map_cons, Rows.uptoBulkAll]; omega

theorem struct_aux {B : Nat} {cs : List Value} {n : Nat} (hn : cs.length = n) : ∀ (fl : List Field) (xs : List (DataW H)) (o : Nat), lays P fl o n = true → o ≤ n → xs.length = fl.length →
    (∀ (i : Nat) (f : Field) (x : DataW H), fl[i]? = some f → xs[i]? = some x → ∃ ds, Rds w B ((cs.drop f.offset).take (P.cellsOf f.type)) ds ∧ Has P f.type ds ∧ D.wts ds ≤ Rows.uptoBulk x) →
    ∃ ds, Rds w B (cs.drop o) ds ∧ (∀ (i : Nat) (f : Field), fl[i]? = some f → o ≤ f.offset ∧ Has P f.type ((ds.drop (f.offset - o)).take (P.cellsOf f.type))) ∧ D.wts ds ≤ Rows.uptoBulkAll xs
  | [], xs, o, hl, ho, hx, _ => by
    simp only [lays, beq_iff_eq] at hl
    subst hl
    rw [← hn, List.drop_length]
    exact ⟨[], Rds.nil, fun i f h => by simp at h, by simp [D.wts]⟩
  | f :: r, [], o, _, _, hx, _ => by simp at hx
  | f :: r, x :: xs, o, hl, ho, hx, hf => by
    simp only [lays, Bool.and_eq_true, beq_iff_eq] at hl
    obtain ⟨hfo, hl⟩ := hl
    obtain ⟨d0, hr0, hh0, hw0⟩ := hf 0 f x rfl rfl
    have hle : ∀ (r : List Field) (o : Nat), lays P r o n = true → o ≤ n := by
      intro r
      induction r with
      | nil => intro o h; simp only [lays, beq_iff_eq] at h; omega
      | cons g r ih => intro o h; simp only [lays, Bool.and_eq_true, beq_iff_eq] at h; have := ih _ h.2; omega
    have ho' := hle r _ hl
    obtain ⟨ds, hr, hh, hw⟩ := struct_aux hn r xs (o + P.cellsOf f.type) hl ho' (by simpa using hx) (fun i g y hg hy => hf (i + 1) g y (by simpa using hg) (by simpa using hy))
    rw [hfo] at hr0
    have hd0 : d0.length = P.cellsOf f.type := by rw [hr0.1, List.length_take, List.length_drop]; omega
    refine ⟨d0 ++ ds, ?_, ?_, by simp only [wts_append, Rows.uptoBulkAll]; omega⟩
    · have : cs.drop o = (cs.drop o).take (P.cellsOf f.type) ++ cs.drop (o + P.cellsOf f.type) := by
        rw [← List.drop_drop]; exact (List.take_append_drop _ _).symm
      rw [this]
      exact hr0.append hr
    · intro i g hg
      cases i with
      | zero =>
        simp at hg; subst hg
        refine ⟨by omega, ?_⟩
        rw [hfo, Nat.sub_self, List.drop_zero, List.take_append_of_le_length (by omega), List.take_of_length_le (by omega)]
        exact hh0
      | succ i =>
        obtain ⟨h1, h2⟩ := hh i g (by simpa using hg)
        refine ⟨by omega, ?_⟩
        have : (d0 ++ ds).drop (g.offset - o) = ds.drop (g.offset - (o + P.cellsOf f.type)) := by
          rw [List.drop_append, List.drop_of_length_le (by omega), List.nil_append, hd0]; congr 1; omega
        rw [this]; exact h2

theorem rd_of_trod {B : Nat} (ok : List TypeId) (hok : plainAll P ok = true) : ∀ (fuel : Nat) (t : TypeId) (cs : List Value) (x : DataW H × List MemPlace), t ∈ ok → DataW.trod enc P w base spare held fuel t cs = some x → (∀ p ∈ x.2, p.block < B) →
    ∃ ds, Rds w B cs ds ∧ Has P t ds ∧ D.wts ds ≤ Rows.uptoBulk x.1 := by
  intro fuel
  induction fuel with
  | zero => intro t cs x _ h; simp [DataW.trod] at h
  | succ fuel ih =>
    intro t cs x ht h hB
    have hp : plainT P ok t = true := List.all_eq_true.1 hok t ht
    unfold plainT at hp
    split at hp
    · rename_i hu
      obtain ⟨b, rfl, rfl⟩ := DataW.trod_bool hu h
      exact ⟨[.bool b], Rds.cons .bool Rds.nil, .bool hu, by simp [D.wts, D.wt, Rows.uptoBulk]⟩
    · rename_i k hu
      obtain ⟨z, rfl, rfl, hw⟩ := DataW.trod_int hu h
      exact ⟨[.int k z], Rds.cons (.int hw) Rds.nil, .int hu hw, by simp [D.wts, D.wt, Rows.uptoBulk]⟩
    · rename_i hu
      obtain ⟨s, rfl, rfl, hs⟩ := DataW.trod_string hu h
      refine ⟨[.str s], Rds.cons (.str hs) Rds.nil, .str hu hs, ?_⟩
      simp only [D.wts, D.wt, Rows.uptoBulk, Array.length_toList]
      exact Nat.le_refl _
    · rename_i e hu
      simp only [Bool.and_eq_true, decide_eq_true_eq] at hp
      obtain ⟨hp, hk⟩ := hp
      have he : e ∈ ok := by simpa using hp
      rcases DataW.trod_slice hu h with ⟨rfl, rfl⟩ | ⟨a, len, cap, elems, rest, n, hfn, rfl, rfl, hb, hl, hm, hlen, hel, _⟩
      · refine ⟨[.list (P.cellsOf e) 0 []], Rds.cons (.list (xs := []) ⟨by simp, Nat.zero_le _, .inl ⟨rfl, none, 0, rfl⟩⟩ rfl (fun j u d hu => by simp at hu)) Rds.nil, .slice hu (by simp) (fun i hi => by omega), by simp [D.wts, D.wt, Rows.uptoBulk]⟩
      · obtain rfl : fuel = n := by omega
        have hone : ∀ i, i < len → ∃ y : List Value × List D, w.cells? base (a.add (i * P.cellsOf e)) (P.cellsOf e) = some y.1 ∧ Rds w B y.1 y.2 ∧ Has P e y.2 ∧ D.wts y.2 ≤ Rows.uptoBulk ((elems.map (·.1)).getD i .nil) := by
          intro i hi
          have h1 := hel i hi
          obtain ⟨cs', hcs', h2⟩ := Option.bind_eq_some_iff.1 (h1.trans (List.getElem?_eq_getElem (by omega)))
          obtain ⟨ds, g1, g2, g3⟩ := ih e cs' _ he h2 (fun p hp => hB p (List.mem_append_right _ (List.mem_flatMap.2 ⟨_, List.mem_append_left _ (List.getElem_mem _), hp⟩)))
          refine ⟨(cs', ds), hcs', g1, g2, ?_⟩
          have : (elems.map (·.1)).getD i .nil = (elems[i]'(by omega)).1 := by simp [List.getD, List.getElem?_eq_getElem (show i < elems.length by omega)]
          rw [this]; exact g3
        obtain ⟨F, hF⟩ := Go.Deep.choose_lt (α := List Value × List D) hone
        have hkv : ∀ i, i < len → (F i).1.length = P.cellsOf e := fun i hi => (World.cells?_some (hF i hi).1).2.1
        have hkd : ∀ i, i < len → (F i).2.length = P.cellsOf e := fun i hi => by rw [(hF i hi).2.1.1]; exact hkv i hi
        -- total functions with constant lengths
        let V : Nat → List Value := fun i => if i < len then (F i).1 else List.replicate (P.cellsOf e) undef
        let E : Nat → List D := fun i => if i < len then (F i).2 else List.replicate (P.cellsOf e) (.bool false)
        have hV : ∀ i, (V i).length = P.cellsOf e := fun i => by dsimp only [V]; split; exact hkv i ‹_›; simp
        have hE : ∀ i, (E i).length = P.cellsOf e := fun i => by dsimp only [E]; split; exact hkd i ‹_›; simp
        have hRd : ∀ l : List Nat, (∀ i ∈ l, i < len) → Rds w B (l.flatMap V) (l.flatMap E) := by
          intro l
          induction l with
          | nil => intro _; exact Rds.nil
          | cons i l ihl =>
            intro hm
            simp only [List.flatMap_cons]
            refine Rds.append ?_ (ihl fun j hj => hm j (List.mem_cons_of_mem _ hj))
            have hi := hm i (List.mem_cons_self ..)
            simp only [V, E, if_pos hi]
            exact (hF i hi).2.1
        have hlenV := flat_len V (P.cellsOf e) hV (List.range len)
        have hlenE := flat_len E (P.cellsOf e) hE (List.range len)
        rw [List.length_range] at hlenV hlenE
        have hrd := hRd (List.range len) (fun i hi => List.mem_range.1 hi)
        refine ⟨[.list (P.cellsOf e) len ((List.range len).flatMap E)], Rds.cons (Rd.mk (xs := (List.range len).flatMap V) ⟨hlenV, by omega, ?_⟩ hrd) Rds.nil, .slice hu hlenE (fun i hi => ?_), ?_⟩
        · rcases Nat.eq_zero_or_pos len with h0 | h0
          · exact .inl ⟨h0, some a, cap, by rw [h0]⟩
          · have hc0 : ∃ u0, w.cell? (a.add 0) = some u0 := by
              have := World.cells?_some (hF 0 h0).1
              have h3 := this.2.2 0 hk
              rw [List.getElem?_eq_getElem (by rw [hkv 0 h0]; exact hk), Nat.zero_mul, Go.Deep.add_add] at h3
              exact ⟨_, h3⟩
            have hsp : a = ⟨a.block, a.off, none⟩ := by
              obtain ⟨u0, h00⟩ := hc0
              have e0 : a.add 0 = a := by simp [Addr.add]
              rw [e0] at h00
              unfold World.cell? at h00
              split at h00
              · split at h00
                · cases h00
                · rename_i hn; cases a; simp at hn; subst hn; rfl
              · cases h00
            refine .inr ⟨a.block, a.off, cap, by rw [← hsp], ?_, hl, fun j u hj => ?_⟩
            · refine hB (.cell a.block (a.off + 0)) (List.mem_append_left _ ?_)
              refine List.mem_map.2 ⟨0, ?_, rfl⟩
              rw [List.mem_range]
              exact Nat.mul_pos (by omega) hk
            · have hjl : j < len * P.cellsOf e := by
                have := (List.getElem?_eq_some_iff.1 hj).1
                omega
              have hd := Nat.div_add_mod j (P.cellsOf e)
              have hi : j / P.cellsOf e < len := (Nat.div_lt_iff_lt_mul hk).2 hjl
              have hr := Nat.mod_lt j hk
              have hidx : j / P.cellsOf e * P.cellsOf e + j % P.cellsOf e = j := by rw [Nat.mul_comm]; exact hd
              have hg := flat_get V (P.cellsOf e) hV (List.range len) (j / P.cellsOf e) (j % P.cellsOf e) (by simpa using hi) hr
              rw [hidx, hj] at hg
              simp only [List.getElem_range, V, if_pos hi] at hg
              have := (World.cells?_some (hF _ hi).1).2.2 _ hr
              rw [Go.Deep.add_add, hidx, ← hg] at this
              exact cells_of_add a w j u this hc0
        · rw [flat_take E (P.cellsOf e) hE (List.range len) i (by simpa using hi)]
          simp only [List.getElem_range, E, if_pos hi]
          exact (hF i hi).2.2.1
        · simp only [D.wts, D.wt, Rows.uptoBulk]
          have h1 := wts_flat_mem E (fun i => (elems.map (·.1)).getD i .nil) (List.range len) (fun i hi => by
            have hi' := List.mem_range.1 hi
            simp only [E, if_pos hi']
            exact (hF i hi').2.2.2)
          have h2 : (List.range len).map (fun i => (elems.map (·.1)).getD i .nil) = elems.map (·.1) := by
            have := Go.Deep.map_by_index (elems.map (·.1)) .nil id
            rw [List.map_id, List.length_map, hlen] at this
            exact this.symm
          rw [h2] at h1
          omega
    · rename_i fs hu
      simp only [Bool.and_eq_true] at hp
      obtain ⟨hp1, hp2⟩ := hp
      obtain ⟨xs, n, hfn, rfl, hcl, hxl, hf⟩ := DataW.trod_struct hu h
      obtain rfl : fuel = n := by omega
      obtain ⟨ds, h1, h2, h3⟩ := struct_aux (P := P) (w := w) (B := B) hcl fs.toList (xs.map (·.1)) 0 hp2 (Nat.zero_le _) (by simpa using hxl) (fun i f y hfi hy => by
        have hfi' : fs[i]? = some f := by simpa using hfi
        have hx : xs[i]? = some (xs[i]'(by have := (Array.getElem?_eq_some_iff.1 hfi').1; omega)) := List.getElem?_eq_getElem _
        have hq := hf i f hfi'
        rw [hx] at hq
        have hmem : f.type ∈ ok := by
          have := List.all_eq_true.1 hp1 f (List.mem_of_getElem? hfi)
          simpa using this
        obtain ⟨ds, g1, g2, g3⟩ := ih f.type _ _ hmem hq (fun p hp => hB p (List.mem_flatMap.2 ⟨_, List.getElem_mem _, hp⟩))
        refine ⟨ds, g1, g2, ?_⟩
        rw [List.getElem?_map, hx] at hy
        simp at hy
        rw [← hy]; exact g3)
      refine ⟨ds, by simpa using h1, .struct hu ?_ (fun i f hfi => ?_), ?_⟩
      · have := h1.1; rw [List.drop_zero] at this; omega
      · have := (h2 i f (by simpa using hfi)).2
        simpa using this
      · simp only [Rows.uptoBulk]; omega
    · cases hp
end
end Go.Proofs.YtpndkjjkdeingaaGreatDoor
