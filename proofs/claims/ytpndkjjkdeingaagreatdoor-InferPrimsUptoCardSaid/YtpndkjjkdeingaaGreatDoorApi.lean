/- The structs of package api as Lean values: their flat cells, what a reading of them gives. Written by gen_api.py. -/
import Derived.Test.YtpndkjjkdeingaaGreatDoorRd
import Derived.KernelRfl
set_option linter.unusedVariables false
set_option linter.unusedSimpArgs false
namespace Go.Proofs.YtpndkjjkdeingaaGreatDoor
open Go.RowKit Go.ChangeShapes Go.WideShapes

def sigOf (P : Program) (t : TypeId) : Option (List (TypeId × Nat × Nat)) :=
  match P.underlying t with
  | some (.struct fs) => if lays P fs.toList 0 (P.cellsOf t) then some (fs.toList.map fun f => (f.type, f.offset, P.cellsOf f.type)) else none
  | _ => none
def intOfT (P : Program) (t : TypeId) : Option IntKind := match P.underlying t with | some (.int k) => some k | _ => none
def boolOfT (P : Program) (t : TypeId) : Bool := match P.underlying t with | some .bool => true | _ => false
def strOfT (P : Program) (t : TypeId) : Bool := match P.underlying t with | some .string => true | _ => false
def elemOfT (P : Program) (t : TypeId) : Option TypeId := match P.underlying t with | some (.slice e) => some e | _ => none

theorem chunks (P : Program) (ds : List D) (n : Nat) (hn : ds.length = n) : ∀ (fl : List Field) (o : Nat), lays P fl o n = true → ds.drop o = (fl.map fun f => (f.type, f.offset, P.cellsOf f.type)).flatMap fun x => (ds.drop x.2.1).take x.2.2
  | [], o, h => by
    simp only [lays, beq_iff_eq] at h
    subst h
    rw [← hn, List.drop_length]; rfl
  | f :: r, o, h => by
    simp only [lays, Bool.and_eq_true, beq_iff_eq] at h
    obtain ⟨rfl, h⟩ := h
    have := chunks P ds n hn r _ h
    simp only [List.map_cons, List.flatMap_cons]
    rw [← this, ← List.drop_drop, List.take_append_drop]

theorem Has.parts {P : Program} {t : TypeId} {ds : List D} {L : List (TypeId × Nat × Nat)} (h : Has P t ds) (hs : sigOf P t = some L) :
    (ds = L.flatMap fun x => (ds.drop x.2.1).take x.2.2) ∧ ∀ x ∈ L, Has P x.1 ((ds.drop x.2.1).take x.2.2) := by
  unfold sigOf at hs
  cases h with
  | int h => rw [h] at hs; cases hs
  | bool h => rw [h] at hs; cases hs
  | str h => rw [h] at hs; cases hs
  | slice h => rw [h] at hs; cases hs
  | struct h hl he =>
    rw [h] at hs
    simp only at hs
    split at hs
    · rename_i hlay
      injection hs with hs
      subst hs
      refine ⟨by have := chunks P ds _ hl _ 0 hlay; rwa [List.drop_zero] at this, fun x hx => ?_⟩
      obtain ⟨f, hf, rfl⟩ := List.mem_map.1 hx
      obtain ⟨i, hi⟩ := List.mem_iff_getElem?.1 hf
      exact he i f (by simpa using hi)
    · cases hs
theorem Has.int_inv {P : Program} {t : TypeId} {ds : List D} {k : IntKind} (h : Has P t ds) (hs : intOfT P t = some k) : ∃ z, ds = [.int k z] := by
  unfold intOfT at hs
  cases h with
  | int h hw => rw [h] at hs; injection hs with hs; subst hs; exact ⟨_, rfl⟩
  | bool h => rw [h] at hs; cases hs
  | str h => rw [h] at hs; cases hs
  | slice h => rw [h] at hs; cases hs
  | struct h => rw [h] at hs; cases hs
theorem Has.bool_inv {P : Program} {t : TypeId} {ds : List D} (h : Has P t ds) (hs : boolOfT P t = true) : ∃ z, ds = [.bool z] := by
  unfold boolOfT at hs
  cases h with
  | bool h => exact ⟨_, rfl⟩
  | int h hw => rw [h] at hs; cases hs
  | str h => rw [h] at hs; cases hs
  | slice h => rw [h] at hs; cases hs
  | struct h => rw [h] at hs; cases hs
theorem Has.str_inv {P : Program} {t : TypeId} {ds : List D} (h : Has P t ds) (hs : strOfT P t = true) : ∃ z, ds = [.str z] := by
  unfold strOfT at hs
  cases h with
  | str h => exact ⟨_, rfl⟩
  | int h hw => rw [h] at hs; cases hs
  | bool h => rw [h] at hs; cases hs
  | slice h => rw [h] at hs; cases hs
  | struct h => rw [h] at hs; cases hs
theorem Has.slice_inv {P : Program} {t e : TypeId} {ds : List D} (h : Has P t ds) (hs : elemOfT P t = some e) :
    ∃ n ds', ds = [.list (P.cellsOf e) n ds'] ∧ ds'.length = n * P.cellsOf e ∧ ∀ i, i < n → Has P e ((ds'.drop (i * P.cellsOf e)).take (P.cellsOf e)) := by
  unfold elemOfT at hs
  cases h with
  | slice h hl he => rw [h] at hs; injection hs with hs; subst hs; exact ⟨_, _, rfl, hl, he⟩
  | int h hw => rw [h] at hs; cases hs
  | bool h => rw [h] at hs; cases hs
  | str h => rw [h] at hs; cases hs
  | struct h => rw [h] at hs; cases hs
theorem wts_take_drop (ds : List D) (i k : Nat) : D.wts ((ds.drop i).take k) ≤ D.wts ds := by
  have h1 := wts_append (ds.take i) (ds.drop i)
  have h2 := wts_append ((ds.drop i).take k) ((ds.drop i).drop k)
  rw [List.take_append_drop] at h1 h2
  omega
theorem list_build {α : Type} {P : Program} {e : TypeId} (f : α → List D) (k : Nat) : ∀ (n : Nat) (ds : List D), ds.length = n * k → (∀ i, i < n → Has P e ((ds.drop (i * k)).take k)) →
    (∀ c, D.wts c ≤ D.wts ds → Has P e c → ∃ x, c = f x) → ∃ l : List α, n = l.length ∧ ds = l.flatMap f
  | 0, ds, hl, _, _ => ⟨[], rfl, by have : ds = [] := List.eq_nil_of_length_eq_zero (by omega); rw [this]; rfl⟩
  | n + 1, ds, hl, he, hX => by
    obtain ⟨x, hx⟩ := hX _ (wts_take_drop ds 0 k) (by have := he 0 (by omega); simpa using this)
    have hl' : ds.length = n * k + k := by rw [hl, Nat.succ_mul]
    obtain ⟨l, hln, hd⟩ := list_build (P := P) (e := e) f k n (ds.drop k) (by rw [List.length_drop]; omega) (fun i hi => by
      have := he (i + 1) (by omega)
      rw [List.drop_drop]
      rwa [Nat.succ_mul, Nat.add_comm] at this) (fun c hc hh => hX c (by
        have := wts_append (ds.take k) (ds.drop k)
        rw [List.take_append_drop] at this; omega) hh)
    refine ⟨x :: l, by simp [hln], ?_⟩
    rw [List.flatMap_cons, ← hx, ← hd, List.drop_zero, List.take_append_drop]
theorem Has.list_of {α : Type} {P : Program} {t e : TypeId} {ds : List D} {k : Nat} {f : α → List D} (h : Has P t ds) (hs : elemOfT P t = some e) (hk : P.cellsOf e = k) (_hf : ∀ x, (f x).length = k)
    (hX : ∀ c, D.wts c < D.wts ds → Has P e c → ∃ x, c = f x) : ∃ l : List α, ds = [.list k l.length (l.flatMap f)] := by
  obtain ⟨n, ds', rfl, hl, he⟩ := h.slice_inv hs
  rw [hk] at hl he
  obtain ⟨l, rfl, rfl⟩ := list_build f k n ds' hl he (fun c hc hh => hX c (by simp only [D.wts, D.wt]; omega) hh)
  exact ⟨l, by rw [hk]⟩
theorem ints_flat (k : IntKind) : ∀ l : List Int, (l.flatMap fun z => [D.int k z]) = l.map (D.int k)
  | [] => rfl
  | z :: l => by simp only [List.flatMap_cons, ints_flat k l, List.map_cons]; rfl
theorem Has.ints_inv {P : Program} {t e : TypeId} {ds : List D} {k : IntKind} (h : Has P t ds) (hs : elemOfT P t = some e) (hi : intOfT P e = some k) (hk : P.cellsOf e = 1) : ∃ l : List Int, ds = [.list 1 l.length (l.map (D.int k))] := by
  obtain ⟨l, hl⟩ := h.list_of (f := fun z : Int => [D.int k z]) hs hk (fun _ => rfl) (fun c _ hh => hh.int_inv hi)
  exact ⟨l, by rw [hl, ints_flat]⟩

structure Mu where
  v : Int
  c : Int
def Mu.d (x : Mu) : List D := [.int .i64 x.v, .int .u8 x.c]
theorem Mu.d_len (x : Mu) : x.d.length = 2 := rfl
theorem Mu.cells {w : World} {B : Nat} {us : List Value} {x : Mu} (h : Rds w B us x.d) : us = [.int .i64 x.v, .int .u8 x.c] ∧ (Lit.int .i64 x.v).wf = true ∧ (Lit.int .u8 x.c).wf = true := by
  unfold Mu.d at h
  obtain ⟨v0, u0, rfl, h0, t0⟩ := h.cons_inv
  obtain ⟨rfl, w0⟩ := h0.int_inv
  obtain ⟨v1, u1, rfl, h1, t1⟩ := t0.cons_inv
  obtain ⟨rfl, w1⟩ := h1.int_inv
  obtain rfl := t1.nil_inv
  exact ⟨rfl, w0, w1⟩
theorem has_Mu {ds : List D} (h : Has Tryz.prog 36 ds) : ∃ x : Mu, ds = x.d := by
  obtain ⟨he, hp⟩ := h.parts (L := [(3, 0, 1), (34, 1, 1)]) (by kernel_rfl)
  obtain ⟨z0, e0⟩ := (hp _ (List.mem_of_getElem? (show _ = some (3, 0, 1) from (rfl : [(3, 0, 1), (34, 1, 1)][0]? = _)))).int_inv (k := .i64) (by kernel_rfl)
  obtain ⟨z1, e1⟩ := (hp _ (List.mem_of_getElem? (show _ = some (34, 1, 1) from (rfl : [(3, 0, 1), (34, 1, 1)][1]? = _)))).int_inv (k := .u8) (by kernel_rfl)
  refine ⟨⟨z0, z1⟩, he.trans ?_⟩
  simp only [List.flatMap_cons, List.flatMap_nil, e0, e1]
  rfl

inductive Ty where
  | mk (kind n v c : Int) (l : List Ty)
namespace Ty
def kind : Ty → Int | .mk k _ _ _ _ => k
def n : Ty → Int | .mk _ n _ _ _ => n
def v : Ty → Int | .mk _ _ v _ _ => v
def c : Ty → Int | .mk _ _ _ c _ => c
def l : Ty → List Ty | .mk _ _ _ _ l => l
mutual
def d : Ty → List D
  | .mk kind n v c l => [.int .u8 kind, .int .i64 n, .int .i64 v, .int .u8 c, .list 5 l.length (dl l)]
def dl : List Ty → List D
  | [] => []
  | t :: r => t.d ++ dl r
end
theorem dl_eq : ∀ l : List Ty, dl l = l.flatMap d
  | [] => by simp [dl]
  | t :: r => by simp [dl, dl_eq r]
theorem d_eq (x : Ty) : x.d = [.int .u8 x.kind, .int .i64 x.n, .int .i64 x.v, .int .u8 x.c, .list 5 x.l.length (x.l.flatMap Ty.d)] := by
  cases x; simp [d, kind, n, v, c, l, dl_eq]
theorem d_len (x : Ty) : x.d.length = 5 := by cases x; simp [d]
theorem cells {w : World} {B : Nat} {us : List Value} {x : Ty} (h : Rds w B us x.d) : ∃ v4 : Value, us = [.int .u8 x.kind, .int .i64 x.n, .int .i64 x.v, .int .u8 x.c, v4] ∧ Rd w B v4 (.list 5 x.l.length (x.l.flatMap Ty.d)) ∧
    (Lit.int .u8 x.kind).wf = true ∧ (Lit.int .i64 x.n).wf = true ∧ (Lit.int .i64 x.v).wf = true ∧ (Lit.int .u8 x.c).wf = true := by
  rw [d_eq] at h
  obtain ⟨v0, u0, rfl, h0, t0⟩ := h.cons_inv
  obtain ⟨rfl, w0⟩ := h0.int_inv
  obtain ⟨v1, u1, rfl, h1, t1⟩ := t0.cons_inv
  obtain ⟨rfl, w1⟩ := h1.int_inv
  obtain ⟨v2, u2, rfl, h2, t2⟩ := t1.cons_inv
  obtain ⟨rfl, w2⟩ := h2.int_inv
  obtain ⟨v3, u3, rfl, h3, t3⟩ := t2.cons_inv
  obtain ⟨rfl, w3⟩ := h3.int_inv
  obtain ⟨v4, u4, rfl, h4, t4⟩ := t3.cons_inv
  obtain rfl := t4.nil_inv
  exact ⟨v4, rfl, h4, w0, w1, w2, w3⟩
/-- how many nodes -/
def size : Ty → Nat
  | .mk _ _ _ _ l => 1 + sizes l
where sizes : List Ty → Nat
  | [] => 0
  | t :: r => t.size + sizes r
theorem size_mem {t : Ty} {l : List Ty} (h : t ∈ l) : t.size ≤ size.sizes l := by
  induction l with
  | nil => cases h
  | cons a l ih =>
    simp only [size.sizes]
    rcases List.mem_cons.1 h with rfl | h
    · omega
    · have := ih h; omega
end Ty
theorem has_Ty_aux : ∀ (N : Nat) (ds : List D), D.wts ds < N → Has Tryz.prog 39 ds → ∃ x : Ty, ds = x.d := by
  intro N
  induction N with
  | zero => intro ds h; omega
  | succ N ih =>
    intro ds hN h
    obtain ⟨he, hp⟩ := h.parts (L := [(5, 0, 1), (3, 1, 1), (36, 2, 2), (37, 4, 1)]) (by kernel_rfl)
    obtain ⟨z0, e0⟩ := (hp _ (List.mem_of_getElem? (show _ = some (5, 0, 1) from (rfl : [(5, 0, 1), (3, 1, 1), (36, 2, 2), (37, 4, 1)][0]? = _)))).int_inv (k := .u8) (by kernel_rfl)
    obtain ⟨z1, e1⟩ := (hp _ (List.mem_of_getElem? (show _ = some (3, 1, 1) from (rfl : [(5, 0, 1), (3, 1, 1), (36, 2, 2), (37, 4, 1)][1]? = _)))).int_inv (k := .i64) (by kernel_rfl)
    obtain ⟨z2, e2⟩ := has_Mu (hp _ (List.mem_of_getElem? (show _ = some (36, 2, 2) from (rfl : [(5, 0, 1), (3, 1, 1), (36, 2, 2), (37, 4, 1)][2]? = _))))
    have hlt : D.wts ((ds.drop 4).take 1) ≤ N := by have := wts_take_drop ds 4 1; omega
    obtain ⟨z3, e3⟩ := (hp _ (List.mem_of_getElem? (show _ = some (37, 4, 1) from (rfl : [(5, 0, 1), (3, 1, 1), (36, 2, 2), (37, 4, 1)][3]? = _)))).list_of (e := 39) (k := 5) (by kernel_rfl) (by kernel_rfl) Ty.d_len (fun c hc h => ih c (by simp only at hc; omega) h)
    refine ⟨.mk z0 z1 z2.v z2.c z3, he.trans ?_⟩
    simp only [List.flatMap_cons, List.flatMap_nil, e0, e1, e2, e3]
    simp [Ty.d, Mu.d, Ty.dl_eq]
theorem has_Ty {ds : List D} (h : Has Tryz.prog 39 ds) : ∃ x : Ty, ds = x.d := has_Ty_aux _ ds (Nat.lt_succ_self _) h


end Go.Proofs.YtpndkjjkdeingaaGreatDoor
