/- What a type's shape gives of the data that it reads as: the generic part of XApi, for a seat that has other structs. -/
import Derived.Test.YtaojgcioljcpmaaGreatDoorRd
import Derived.KernelRfl
namespace Go.Proofs.YtaojgcioljcpmaaGreatDoor
open Go.RowKit Go.ChangeShapes Go.WideShapes

def sigOf (P : Program) (t : TypeId) : Option (List (TypeId × Nat × Nat)) :=
  match P.underlying t with
  | some (.struct fs) => if lays P fs.toList 0 (P.cellsOf t) then some (fs.toList.map fun f => (f.type, f.offset, P.cellsOf f.type)) else none
  | _ => none
def intOfT (P : Program) (t : TypeId) : Option IntKind := match P.underlying t with | some (.int k) => some k | _ => none
def boolOfT (P : Program) (t : TypeId) : Bool := match P.underlying t with | some .bool => true | _ => false
def strOfT (P : Program) (t : TypeId) : Bool := match P.underlying t with | some .string => true | _ => false
def elemOfT (P : Program) (t : TypeId) : Option TypeId := match P.underlying t with | some (.slice e) => some e | _ => none

theorem chunks (P : Program) (ds : List D) (n : Nat) (hn : ds.length = n) : ∀ (fl : List Field) (o : Nat), lays P fl o n = true → ds.drop o = (fl.map fun f => (f.type, f.offset, P.cellsOf f.type)).flatMap fun x => (ds.drop x.2.1).take x.2.2
  | [], o, h => by
    simp only [lays, beq_iff_eq] at h
    subst h
    rw [← hn, List.drop_length]; rfl
  | f :: r, o, h => by
    simp only [lays, Bool.and_eq_true, beq_iff_eq] at h
    obtain ⟨rfl, h⟩ := h
    have := chunks P ds n hn r _ h
    simp only [List.map_cons, List.flatMap_cons]
    rw [← this, ← List.drop_drop, List.take_append_drop]

theorem Has.parts {P : Program} {t : TypeId} {ds : List D} {L : List (TypeId × Nat × Nat)} (h : Has P t ds) (hs : sigOf P t = some L) :
    (ds = L.flatMap fun x => (ds.drop x.2.1).take x.2.2) ∧ ∀ x ∈ L, Has P x.1 ((ds.drop x.2.1).take x.2.2) := by
  unfold sigOf at hs
  cases h with
  | int h => rw [h] at hs; cases hs
  | bool h => rw [h] at hs; cases hs
  | str h => rw [h] at hs; cases hs
  | slice h => rw [h] at hs; cases hs
  | struct h hl he =>
    rw [h] at hs
    simp only at hs
    split at hs
    · rename_i hlay
      injection hs with hs
      subst hs
      refine ⟨by have := chunks P ds _ hl _ 0 hlay; rwa [List.drop_zero] at this, fun x hx => ?_⟩
      obtain ⟨f, hf, rfl⟩ := List.mem_map.1 hx
      obtain ⟨i, hi⟩ := List.mem_iff_getElem?.1 hf
      exact he i f (by simpa using hi)
    · cases hs
theorem Has.int_inv {P : Program} {t : TypeId} {ds : List D} {k : IntKind} (h : Has P t ds) (hs : intOfT P t = some k) : ∃ z, ds = [.int k z] := by
  unfold intOfT at hs
  cases h with
  | int h hw => rw [h] at hs; injection hs with hs; subst hs; exact ⟨_, rfl⟩
  | bool h => rw [h] at hs; cases hs
  | str h => rw [h] at hs; cases hs
  | slice h => rw [h] at hs; cases hs
  | struct h => rw [h] at hs; cases hs
theorem Has.bool_inv {P : Program} {t : TypeId} {ds : List D} (h : Has P t ds) (hs : boolOfT P t = true) : ∃ z, ds = [.bool z] := by
  unfold boolOfT at hs
  cases h with
  | bool h => exact ⟨_, rfl⟩
  | int h hw => rw [h] at hs; cases hs
  | str h => rw [h] at hs; cases hs
  | slice h => rw [h] at hs; cases hs
  | struct h => rw [h] at hs; cases hs
theorem Has.str_inv {P : Program} {t : TypeId} {ds : List D} (h : Has P t ds) (hs : strOfT P t = true) : ∃ z, ds = [.str z] := by
  unfold strOfT at hs
  cases h with
  | str h => exact ⟨_, rfl⟩
  | int h hw => rw [h] at hs; cases hs
  | bool h => rw [h] at hs; cases hs
  | slice h => rw [h] at hs; cases hs
  | struct h => rw [h] at hs; cases hs
theorem Has.slice_inv {P : Program} {t e : TypeId} {ds : List D} (h : Has P t ds) (hs : elemOfT P t = some e) :
    ∃ n ds', ds = [.list (P.cellsOf e) n ds'] ∧ ds'.length = n * P.cellsOf e ∧ ∀ i, i < n → Has P e ((ds'.drop (i * P.cellsOf e)).take (P.cellsOf e)) := by
  unfold elemOfT at hs
  cases h with
  | slice h hl he => rw [h] at hs; injection hs with hs; subst hs; exact ⟨_, _, rfl, hl, he⟩
  | int h hw => rw [h] at hs; cases hs
  | bool h => rw [h] at hs; cases hs
  | str h => rw [h] at hs; cases hs
  | struct h => rw [h] at hs; cases hs
theorem wts_take_drop (ds : List D) (i k : Nat) : D.wts ((ds.drop i).take k) ≤ D.wts ds := by
  have h1 := wts_append (ds.take i) (ds.drop i)
  have h2 := wts_append ((ds.drop i).take k) ((ds.drop i).drop k)
  rw [List.take_append_drop] at h1 h2
  omega
theorem list_build {α : Type} {P : Program} {e : TypeId} (f : α → List D) (k : Nat) : ∀ (n : Nat) (ds : List D), ds.length = n * k → (∀ i, i < n → Has P e ((ds.drop (i * k)).take k)) →
    (∀ c, D.wts c ≤ D.wts ds → Has P e c → ∃ x, c = f x) → ∃ l : List α, n = l.length ∧ ds = l.flatMap f
  | 0, ds, hl, _, _ => ⟨[], rfl, by have : ds = [] := List.eq_nil_of_length_eq_zero (by omega); rw [this]; rfl⟩
  | n + 1, ds, hl, he, hX => by
    obtain ⟨x, hx⟩ := hX _ (wts_take_drop ds 0 k) (by have := he 0 (by omega); simpa using this)
    have hl' : ds.length = n * k + k := by rw [hl, Nat.succ_mul]
    obtain ⟨l, hln, hd⟩ := list_build (P := P) (e := e) f k n (ds.drop k) (by rw [List.length_drop]; omega) (fun i hi => by
      have := he (i + 1) (by omega)
      rw [List.drop_drop]
      rwa [Nat.succ_mul, Nat.add_comm] at this) (fun c hc hh => hX c (by
        have := wts_append (ds.take k) (ds.drop k)
        rw [List.take_append_drop] at this; omega) hh)
    refine ⟨x :: l, by simp [hln], ?_⟩
    rw [List.flatMap_cons, ← hx, ← hd, List.drop_zero, List.take_append_drop]
theorem Has.list_of {α : Type} {P : Program} {t e : TypeId} {ds : List D} {k : Nat} {f : α → List D} (h : Has P t ds) (hs : elemOfT P t = some e) (hk : P.cellsOf e = k) (_hf : ∀ x, (f x).length = k)
    (hX : ∀ c, D.wts c < D.wts ds → Has P e c → ∃ x, c = f x) : ∃ l : List α, ds = [.list k l.length (l.flatMap f)] := by
  obtain ⟨n, ds', rfl, hl, he⟩ := h.slice_inv hs
  rw [hk] at hl he
  obtain ⟨l, rfl, rfl⟩ := list_build f k n ds' hl he (fun c hc hh => hX c (by simp only [D.wts, D.wt]; omega) hh)
  exact ⟨l, by rw [hk]⟩
end Go.Proofs.YtaojgcioljcpmaaGreatDoor
