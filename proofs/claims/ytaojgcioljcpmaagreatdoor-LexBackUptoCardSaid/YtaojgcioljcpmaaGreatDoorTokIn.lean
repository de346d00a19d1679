/- The opening of a []api.Token that a law is handed. -/
import Derived.Test.YtaojgcioljcpmaaGreatDoorHas
import Derived.Test.YtaojgcioljcpmaaGreatDoorBack
import Derived.ProofKit
import Derived.OpenShut
namespace Go.Proofs.YtaojgcioljcpmaaGreatDoor
open Go.RowKit Go.ChangeShapes Go.WideShapes Go.ChangeAt

def tokD (x : T.Tok) : List D := [.int .u8 x.k, .str ⟨x.t.toArray⟩, .int .i64 x.n, .int .i64 x.p.a, .int .i64 x.p.l, .int .i64 x.p.c]
theorem has_Pos {ds : List D} (h : Has Tryz.prog 29 ds) : ∃ a b c : Int, ds = [.int .i64 a, .int .i64 b, .int .i64 c] := by
  obtain ⟨he, hp⟩ := h.parts (L := [(3, 0, 1), (3, 1, 1), (3, 2, 1)]) (by kernel_rfl)
  obtain ⟨z0, e0⟩ := (hp _ (List.mem_of_getElem? (show _ = some (3, 0, 1) from (rfl : [(3, 0, 1), (3, 1, 1), (3, 2, 1)][0]? = _)))).int_inv (k := .i64) (by kernel_rfl)
  obtain ⟨z1, e1⟩ := (hp _ (List.mem_of_getElem? (show _ = some (3, 1, 1) from (rfl : [(3, 0, 1), (3, 1, 1), (3, 2, 1)][1]? = _)))).int_inv (k := .i64) (by kernel_rfl)
  obtain ⟨z2, e2⟩ := (hp _ (List.mem_of_getElem? (show _ = some (3, 2, 1) from (rfl : [(3, 0, 1), (3, 1, 1), (3, 2, 1)][2]? = _)))).int_inv (k := .i64) (by kernel_rfl)
  refine ⟨z0, z1, z2, he.trans ?_⟩
  simp only [List.flatMap_cons, List.flatMap_nil, e0, e1, e2]
  rfl
theorem has_Tok {ds : List D} (h : Has Tryz.prog 42 ds) : ∃ x : T.Tok, ds = tokD x := by
  obtain ⟨he, hp⟩ := h.parts (L := [(5, 0, 1), (9, 1, 1), (2, 2, 1), (29, 3, 3)]) (by kernel_rfl)
  obtain ⟨z0, e0⟩ := (hp _ (List.mem_of_getElem? (show _ = some (5, 0, 1) from (rfl : [(5, 0, 1), (9, 1, 1), (2, 2, 1), (29, 3, 3)][0]? = _)))).int_inv (k := .u8) (by kernel_rfl)
  obtain ⟨z1, e1⟩ := (hp _ (List.mem_of_getElem? (show _ = some (9, 1, 1) from (rfl : [(5, 0, 1), (9, 1, 1), (2, 2, 1), (29, 3, 3)][1]? = _)))).str_inv (by kernel_rfl)
  obtain ⟨z2, e2⟩ := (hp _ (List.mem_of_getElem? (show _ = some (2, 2, 1) from (rfl : [(5, 0, 1), (9, 1, 1), (2, 2, 1), (29, 3, 3)][2]? = _)))).int_inv (k := .i64) (by kernel_rfl)
  obtain ⟨a, b, c, e3⟩ := has_Pos (hp _ (List.mem_of_getElem? (show _ = some (29, 3, 3) from (rfl : [(5, 0, 1), (9, 1, 1), (2, 2, 1), (29, 3, 3)][3]? = _))))
  refine ⟨⟨z0, z1.data.toList, z2, ⟨a, b, c⟩⟩, he.trans ?_⟩
  simp only [List.flatMap_cons, List.flatMap_nil, e0, e1, e2, e3]
  rfl
theorem toks_cells {w : World} {B : Nat} : ∀ (l : List T.Tok) (xs : List Value), Rds w B xs (l.flatMap tokD) → xs = toksCells l ∧ ∀ t ∈ l, (Lit.int .i64 t.n).wf = true
  | [], xs, h => by
    obtain rfl := Rds.nil_inv (show Rds w B xs [] from h)
    exact ⟨rfl, fun t ht => by cases ht⟩
  | x :: l, xs, h => by
    rw [List.flatMap_cons] at h
    obtain ⟨v0, u0, rfl, h0, t0⟩ := Rds.cons_inv (show Rds w B xs (.int .u8 x.k :: .str ⟨x.t.toArray⟩ :: .int .i64 x.n :: .int .i64 x.p.a :: .int .i64 x.p.l :: .int .i64 x.p.c :: l.flatMap tokD) from h)
    obtain ⟨rfl, w0⟩ := h0.int_inv
    obtain ⟨v1, u1, rfl, h1, t1⟩ := t0.cons_inv
    obtain ⟨rfl, w1⟩ := h1.str_inv
    obtain ⟨v2, u2, rfl, h2, t2⟩ := t1.cons_inv
    obtain ⟨rfl, w2⟩ := h2.int_inv
    obtain ⟨v3, u3, rfl, h3, t3⟩ := t2.cons_inv
    obtain ⟨rfl, w3⟩ := h3.int_inv
    obtain ⟨v4, u4, rfl, h4, t4⟩ := t3.cons_inv
    obtain ⟨rfl, w4⟩ := h4.int_inv
    obtain ⟨v5, u5, rfl, h5, t5⟩ := t4.cons_inv
    obtain ⟨rfl, w5⟩ := h5.int_inv
    obtain ⟨rfl, hl⟩ := toks_cells l _ t5
    refine ⟨rfl, fun t ht => ?_⟩
    rcases List.mem_cons.1 ht with rfl | ht
    · exact w2
    · exact hl t ht
theorem tokD_wts (x : T.Tok) : D.wts (tokD x) = x.t.length + 6 := by
  simp only [tokD, D.wts, D.wt]
  have : (⟨x.t.toArray⟩ : ByteArray).size = x.t.length := by show x.t.toArray.size = _; rw [List.size_toArray]
  omega
theorem toks_wts : ∀ (l : List T.Tok), l.length ≤ D.wts (l.flatMap tokD) ∧ ∀ t ∈ l, t.t.length ≤ D.wts (l.flatMap tokD)
  | [] => ⟨Nat.le_refl _, fun t ht => by cases ht⟩
  | x :: l => by
    have ih := toks_wts l
    have h1 := wts_append (tokD x) (l.flatMap tokD)
    have h2 := tokD_wts x
    rw [List.flatMap_cons, List.length_cons]
    refine ⟨by omega, fun t ht => ?_⟩
    rcases List.mem_cons.1 ht with rfl | ht
    · omega
    · have := ih.2 t ht; omega
theorem plainTok : plainAll Tryz.prog [22, 42, 29, 5, 9, 2, 3] = true := by kernel_rfl
section
variable {H : Type} {enc : TypeId × Value → H} {w : World} {base : Nat} {sp : Nat → Bool} {held : Bool}
set_option maxRecDepth 100000 in
theorem open_tokens {r : Reach} {b0 B : Nat} {v : Value} {d : DataW H} {ps : List MemPlace} (hval : Value.okWide Tryz.prog w r b0 22 v) (hd : DataW.Trod enc Tryz.prog w base sp held 22 v d ps)
    (hB : ∀ p ∈ ps, p.block < B) (hk : Rows.uptoBulk d ≤ 1048576) :
    ∃ (l : List T.Tok) (a : Option Addr) (m c : Nat), v = .slice a m c ∧ l.length = m ∧ m ≤ 1048576 ∧ Row w B 6 (.slice a m c) m (toksCells l) ∧ ∀ t ∈ l, TokOk t := by
  obtain ⟨a0, n0, c0, rfl⟩ := okWide_slice Tryz.underlying22 hval
  obtain ⟨fuel, hf⟩ := hd
  obtain ⟨ds, hr, hh, hw⟩ := rd_of_trod (B := B) [22, 42, 29, 5, 9, 2, 3] plainTok fuel _ _ _ (List.mem_cons_self ..) hf hB
  obtain ⟨l, rfl⟩ := hh.list_of (e := 42) (k := 6) (f := tokD) (by kernel_rfl) (by kernel_rfl) (fun _ => rfl) (fun c _ h => has_Tok h)
  obtain ⟨u, us, hus, h0, _⟩ := hr.cons_inv
  simp only [Value.cells, List.cons.injEq] at hus
  obtain ⟨rfl, _⟩ := hus
  obtain ⟨xs, hrow, hx⟩ := h0.list_inv
  obtain ⟨rfl, hn⟩ := toks_cells l xs hx
  obtain ⟨a, c, he⟩ := hrow.slice
  injection he with e1 e2 e3
  subst e1 e2 e3
  have hwt : D.wts (l.flatMap tokD) ≤ 1048576 := by
    simp only [D.wts, D.wt] at hw
    omega
  obtain ⟨g1, g2⟩ := toks_wts l
  refine ⟨l, _, _, _, rfl, rfl, by omega, hrow, fun t ht => ⟨by have := g2 t ht; omega, ?_⟩⟩
  have := hn t ht
  simp only [Lit.wf, Bool.and_eq_true, decide_eq_true_eq] at this
  exact this
end
end Go.Proofs.YtaojgcioljcpmaaGreatDoor
