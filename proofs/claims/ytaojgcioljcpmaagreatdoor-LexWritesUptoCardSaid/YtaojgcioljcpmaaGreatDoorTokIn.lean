/- The opening of a []api.Token that a law is handed. -/
import Derived.Test.YtaojgcioljcpmaaGreatDoorRd
import Derived.KernelRfl
import Derived.Test.YtaojgcioljcpmaaGreatDoorBack
import Derived.ProofKit
import Derived.OpenShut
namespace Go.Proofs.YtaojgcioljcpmaaGreatDoor
section
open Go.RowKit Go.ChangeShapes Go.WideShapes

def sigOf (P : Program) (t : TypeId) : Option (List (TypeId × Nat × Nat)) :=
  match P.underlying t with
  | some (.struct fs) => if lays P fs.toList 0 (P.cellsOf t) then some (fs.toList.map fun f => (f.type, f.offset, P.cellsOf f.type)) else none
  | _ => none
def intOfT (P : Program) (t : TypeId) : Option IntKind := match P.underlying t with | some (.int k) => some k | _ => none
def boolOfT (P : Program) (t : TypeId) : Bool := match P.underlying t with | some .bool => true | _ => false
def strOfT (P : Program) (t : TypeId) : Bool := match P.underlying t with | some .string => true | _ => false
def elemOfT (P : Program) (t : TypeId) : Option TypeId := match P.underlying t with | some (.slice e) => some e | _ => none

theorem chunks (P : Program) (ds : List D) (n : Nat) (hn : ds.length = n) : ∀ (fl : List Field) (o : Nat), lays P fl o n = true → ds.drop o = (fl.map fun f => (f.type, f.offset, P.cellsOf f.type)).flatMap fun x => (ds.drop x.2.1).take x.2.2
  | [], o, h => by
    simp only [lays, beq_iff_eq] at h
    subst h
    rw [← hn, List.drop_length]; rfl
  | f :: r, o, h => by
    simp only [lays, Bool.and_eq_true, beq_iff_eq] at h
    obtain ⟨rfl, h⟩ := h
    have := chunks P ds n hn r _ h
    simp only [List.map_cons, List.flatMap_cons]
    rw [← this, ← List.drop_drop, List.take_append_drop]

theorem Has.parts {P : Program} {t : TypeId} {ds : List D} {L : List (TypeId × Nat × Nat)} (h : Has P t ds) (hs : sigOf P t = some L) :
    (ds = L.flatMap fun x => (ds.drop x.2.1).take x.2.2) ∧ ∀ x ∈ L, Has P x.1 ((ds.drop x.2.1).take x.2.2) := by
  unfold sigOf at hs
  cases h with
  | int h => rw [h] at hs; cases hs
  | bool h => rw [h] at hs; cases hs
  | str h => rw [h] at hs; cases hs
  | slice h => rw [h] at hs; cases hs
  | struct h hl he =>
    rw [h] at hs
    simp only at hs
    split at hs
    · rename_i hlay
      injection hs with hs
      subst hs
      refine ⟨by have := chunks P ds _ hl _ 0 hlay; rwa [List.drop_zero] at this, fun x hx => ?_⟩
      obtain ⟨f, hf, rfl⟩ := List.mem_map.1 hx
      obtain ⟨i, hi⟩ := List.mem_iff_getElem?.1 hf
      exact he i f (by simpa using hi)
    · cases hs
theorem Has.int_inv {P : Program} {t : TypeId} {ds : List D} {k : IntKind} (h : Has P t ds) (hs : intOfT P t = some k) : ∃ z, ds = [.int k z] := by
  unfold intOfT at hs
  cases h with
  | int h hw => rw [h] at hs; injection hs with hs; subst hs; exact ⟨_, rfl⟩
  | bool h => rw [h] at hs; cases hs
  | str h => rw [h] at hs; cases hs
  | slice h => rw [h] at hs; cases hs
  | struct h => rw [h] at hs; cases hs
theorem Has.bool_inv {P : Program} {t : TypeId} {ds : List D} (h : Has P t ds) (hs : boolOfT P t = true) : ∃ z, ds = [.bool z] := by
  unfold boolOfT at hs
  cases h with
  | bool h => exact ⟨_, rfl⟩
  | int h hw => rw [h] at hs; cases hs
  | str h => rw [h] at hs; cases hs
  | slice h => rw [h] at hs; cases hs
  | struct h => rw [h] at hs; cases hs
theorem Has.str_inv {P : Program} {t : TypeId} {ds : List D} (h : Has P t ds) (hs : strOfT P t = true) : ∃ z, ds = [.str z] := by
  unfold strOfT at hs
  cases h with
  | str h => exact ⟨_, rfl⟩
  | int h hw => rw [h] at hs; cases hs
  | bool h => rw [h] at hs; cases hs
  | slice h => rw [h] at hs; cases hs
  | struct h => rw [h] at hs; cases hs
theorem Has.slice_inv {P : Program} {t e : TypeId} {ds : List D} (h : Has P t ds) (hs : elemOfT P t = some e) :
    ∃ n ds', ds = [.list (P.cellsOf e) n ds'] ∧ ds'.length = n * P.cellsOf e ∧ ∀ i, i < n → Has P e ((ds'.drop (i * P.cellsOf e)).take (P.cellsOf e)) := by
  unfold elemOfT at hs
  cases h with
  | slice h hl he => rw [h] at hs; injection hs with hs; subst hs; exact ⟨_, _, rfl, hl, he⟩
  | int h hw => rw [h] at hs; cases hs
  | bool h => rw [h] at hs; cases hs
  | str h => rw [h] at hs; cases hs
  | struct h => rw [h] at hs; cases hs
theorem wts_take_drop (ds : List D) (i k : Nat) : D.wts ((ds.drop i).take k) ≤ D.wts ds := by
  have h1 := wts_append (ds.take i) (ds.drop i)
  have h2 := wts_append ((ds.drop i).take k) ((ds.drop i).drop k)
  rw [List.take_append_drop] at h1 h2
  omega
theorem list_build {α : Type} {P : Program} {e : TypeId} (f : α → List D) (k : Nat) : ∀ (n : Nat) (ds : List D), ds.length = n * k → (∀ i, i < n → Has P e ((ds.drop (i * k)).take k)) →
    (∀ c, D.wts c ≤ D.wts ds → Has P e c → ∃ x, c = f x) → ∃ l : List α, n = l.length ∧ ds = l.flatMap f
  | 0, ds, hl, _, _ => ⟨[], rfl, by have : ds = [] := List.eq_nil_of_length_eq_zero (by omega); rw [this]; rfl⟩
  | n + 1, ds, hl, he, hX => by
    obtain ⟨x, hx⟩ := hX _ (wts_take_drop ds 0 k) (by have := he 0 (by omega); simpa using this)
    have hl' : ds.length = n * k + k := by rw [hl, Nat.succ_mul]
    obtain ⟨l, hln, hd⟩ := list_build (P := P) (e := e) f k n (ds.drop k) (by rw [List.length_drop]; omega) (fun i hi => by
      have := he (i + 1) (by omega)
      rw [List.drop_drop]
      rwa [Nat.succ_mul, Nat.add_comm] at this) (fun c hc hh => hX c (by
        have := wts_append (ds.take k) (ds.drop k)
        rw [List.take_append_drop] at this; omega) hh)
    refine ⟨x :: l, by simp [hln], ?_⟩
    rw [List.flatMap_cons, ← hx, ← hd, List.drop_zero, List.take_append_drop]
theorem Has.list_of {α : Type} {P : Program} {t e : TypeId} {ds : List D} {k : Nat} {f : α → List D} (h : Has P t ds) (hs : elemOfT P t = some e) (hk : P.cellsOf e = k) (_hf : ∀ x, (f x).length = k)
    (hX : ∀ c, D.wts c < D.wts ds → Has P e c → ∃ x, c = f x) : ∃ l : List α, ds = [.list k l.length (l.flatMap f)] := by
  obtain ⟨n, ds', rfl, hl, he⟩ := h.slice_inv hs
  rw [hk] at hl he
  obtain ⟨l, rfl, rfl⟩ := list_build f k n ds' hl he (fun c hc hh => hX c (by simp only [D.wts, D.wt]; omega) hh)
  exact ⟨l, by rw [hk]⟩
end
open Go.RowKit Go.ChangeShapes Go.WideShapes Go.ChangeAt

def tokD (x : T.Tok) : List D := [.int .u8 x.k, .str ⟨x.t.toArray⟩, .int .i64 x.n, .int .i64 x.p.a, .int .i64 x.p.l, .int .i64 x.p.c]
theorem has_Pos {ds : List D} (h : Has Tryz.prog 29 ds) : ∃ a b c : Int, ds = [.int .i64 a, .int .i64 b, .int .i64 c] := by
  obtain ⟨he, hp⟩ := h.parts (L := [(3, 0, 1), (3, 1, 1), (3, 2, 1)]) (by kernel_rfl)
  obtain ⟨z0, e0⟩ := (hp _ (List.mem_of_getElem? (show _ = some (3, 0, 1) from (rfl : [(3, 0, 1), (3, 1, 1), (3, 2, 1)][0]? = _)))).int_inv (k := .i64) (by kernel_rfl)
  obtain ⟨z1, e1⟩ := (hp _ (List.mem_of_getElem? (show _ = some (3, 1, 1) from (rfl : [(3, 0, 1), (3, 1, 1), (3, 2, 1)][1]? = _)))).int_inv (k := .i64) (by kernel_rfl)
  obtain ⟨z2, e2⟩ := (hp _ (List.mem_of_getElem? (show _ = some (3, 2, 1) from (rfl : [(3, 0, 1), (3, 1, 1), (3, 2, 1)][2]? = _)))).int_inv (k := .i64) (by kernel_rfl)
  refine ⟨z0, z1, z2, he.trans ?_⟩
  simp only [List.flatMap_cons, List.flatMap_nil, e0, e1, e2]
  rfl
theorem has_Tok {ds : List D} (h : Has Tryz.prog 42 ds) : ∃ x : T.Tok, ds = tokD x := by
  obtain ⟨he, hp⟩ := h.parts (L := [(5, 0, 1), (9, 1, 1), (2, 2, 1), (29, 3, 3)]) (by kernel_rfl)
  obtain ⟨z0, e0⟩ := (hp _ (List.mem_of_getElem? (show _ = some (5, 0, 1) from (rfl : [(5, 0, 1), (9, 1, 1), (2, 2, 1), (29, 3, 3)][0]? = _)))).int_inv (k := .u8) (by kernel_rfl)
  obtain ⟨z1, e1⟩ := (hp _ (List.mem_of_getElem? (show _ = some (9, 1, 1) from (rfl : [(5, 0, 1), (9, 1, 1), (2, 2, 1), (29, 3, 3)][1]? = _)))).str_inv (by kernel_rfl)
  obtain ⟨z2, e2⟩ := (hp _ (List.mem_of_getElem? (show _ = some (2, 2, 1) from (rfl : [(5, 0, 1), (9, 1, 1), (2, 2, 1), (29, 3, 3)][2]? = _)))).int_inv (k := .i64) (by kernel_rfl)
  obtain ⟨a, b, c, e3⟩ := has_Pos (hp _ (List.mem_of_getElem? (show _ = some (29, 3, 3) from (rfl : [(5, 0, 1), (9, 1, 1), (2, 2, 1), (29, 3, 3)][3]? = _))))
  refine ⟨⟨z0, z1.data.toList, z2, ⟨a, b, c⟩⟩, he.trans ?_⟩
  simp only [List.flatMap_cons, List.flatMap_nil, e0, e1, e2, e3]
  rfl
theorem toks_cells {w : World} {B : Nat} : ∀ (l : List T.Tok) (xs : List Value), Rds w B xs (l.flatMap tokD) → xs = toksCells l ∧ ∀ t ∈ l, (Lit.int .i64 t.n).wf = true
  | [], xs, h => by
    obtain rfl := Rds.nil_inv (show Rds w B xs [] from h)
    exact ⟨rfl, fun t ht => by cases ht⟩
  | x :: l, xs, h => by
    rw [List.flatMap_cons] at h
    obtain ⟨v0, u0, rfl, h0, t0⟩ := Rds.cons_inv (show Rds w B xs (.int .u8 x.k :: .str ⟨x.t.toArray⟩ :: .int .i64 x.n :: .int .i64 x.p.a :: .int .i64 x.p.l :: .int .i64 x.p.c :: l.flatMap tokD) from h)
    obtain ⟨rfl, w0⟩ := h0.int_inv
    obtain ⟨v1, u1, rfl, h1, t1⟩ := t0.cons_inv
    obtain ⟨rfl, w1⟩ := h1.str_inv
    obtain ⟨v2, u2, rfl, h2, t2⟩ := t1.cons_inv
    obtain ⟨rfl, w2⟩ := h2.int_inv
    obtain ⟨v3, u3, rfl, h3, t3⟩ := t2.cons_inv
    obtain ⟨rfl, w3⟩ := h3.int_inv
    obtain ⟨v4, u4, rfl, h4, t4⟩ := t3.cons_inv
    obtain ⟨rfl, w4⟩ := h4.int_inv
    obtain ⟨v5, u5, rfl, h5, t5⟩ := t4.cons_inv
    obtain ⟨rfl, w5⟩ := h5.int_inv
    obtain ⟨rfl, hl⟩ := toks_cells l _ t5
    refine ⟨rfl, fun t ht => ?_⟩
    rcases List.mem_cons.1 ht with rfl | ht
    · exact w2
    · exact hl t ht
theorem tokD_wts (x : T.Tok) : D.wts (tokD x) = x.t.length + 6 := by
  simp only [tokD, D.wts, D.wt]
  have : (⟨x.t.toArray⟩ : ByteArray).size = x.t.length := by show x.t.toArray.size = _; rw [List.size_toArray]
  omega
theorem toks_wts : ∀ (l : List T.Tok), l.length ≤ D.wts (l.flatMap tokD) ∧ ∀ t ∈ l, t.t.length ≤ D.wts (l.flatMap tokD)
  | [] => ⟨Nat.le_refl _, fun t ht => by cases ht⟩
  | x :: l => by
    have ih := toks_wts l
    have h1 := wts_append (tokD x) (l.flatMap tokD)
    have h2 := tokD_wts x
    rw [List.flatMap_cons, List.length_cons]
    refine ⟨by omega, fun t ht => ?_⟩
    rcases List.mem_cons.1 ht with rfl | ht
    · omega
    · have := ih.2 t ht; omega
theorem plainTok : plainAll Tryz.prog [22, 42, 29, 5, 9, 2, 3] = true := by kernel_rfl
section
variable {H : Type} {enc : TypeId × Value → H} {w : World} {base : Nat} {sp : Nat → Bool} {held : Bool}
set_option maxRecDepth 100000 in
theorem open_tokens {r : Reach} {b0 B : Nat} {v : Value} {d : DataW H} {ps : List MemPlace} (hval : Value.okWide Tryz.prog w r b0 22 v) (hd : DataW.Trod enc Tryz.prog w base sp held 22 v d ps)
    (hB : ∀ p ∈ ps, p.block < B) (hk : Rows.uptoBulk d ≤ 1048576) :
    ∃ (l : List T.Tok) (a : Option Addr) (m c : Nat), v = .slice a m c ∧ l.length = m ∧ m ≤ 1048576 ∧ Row w B 6 (.slice a m c) m (toksCells l) ∧ ∀ t ∈ l, TokOk t := by
  obtain ⟨a0, n0, c0, rfl⟩ := okWide_slice Tryz.underlying22 hval
  obtain ⟨fuel, hf⟩ := hd
  obtain ⟨ds, hr, hh, hw⟩ := rd_of_trod (B := B) [22, 42, 29, 5, 9, 2, 3] plainTok fuel _ _ _ (List.mem_cons_self ..) hf hB
  obtain ⟨l, rfl⟩ := hh.list_of (e := 42) (k := 6) (f := tokD) (by kernel_rfl) (by kernel_rfl) (fun _ => rfl) (fun c _ h => has_Tok h)
  obtain ⟨u, us, hus, h0, _⟩ := hr.cons_inv
  simp only [Value.cells, List.cons.injEq] at hus
  obtain ⟨rfl, _⟩ := hus
  obtain ⟨xs, hrow, hx⟩ := h0.list_inv
  obtain ⟨rfl, hn⟩ := toks_cells l xs hx
  obtain ⟨a, c, he⟩ := hrow.slice
  injection he with e1 e2 e3
  subst e1 e2 e3
  have hwt : D.wts (l.flatMap tokD) ≤ 1048576 := by
    simp only [D.wts, D.wt] at hw
    omega
  obtain ⟨g1, g2⟩ := toks_wts l
  refine ⟨l, _, _, _, rfl, rfl, by omega, hrow, fun t ht => ⟨by have := g2 t ht; omega, ?_⟩⟩
  have := hn t ht
  simp only [Lit.wf, Bool.and_eq_true, decide_eq_true_eq] at this
  exact this
end
end Go.Proofs.YtaojgcioljcpmaaGreatDoor
