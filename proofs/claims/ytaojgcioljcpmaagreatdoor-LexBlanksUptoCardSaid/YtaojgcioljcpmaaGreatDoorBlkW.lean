/- The walk of LexBlanks. -/
import Derived.Test.YtaojgcioljcpmaaGreatDoorTokIn
import Derived.Test.YtaojgcioljcpmaaGreatDoorBackW
import Derived.Test.YtaojgcioljcpmaaGreatDoorBld
import Derived.Test.YtaojgcioljcpmaaGreatDoorKit
import Derived.Lib.AtoiErrMem
namespace Go.Proofs.YtaojgcioljcpmaaGreatDoor
section
open Go.RowKit Go.ChangeShapes Go.WideShapes Go.ChangeAt

theorem blanked_take : ∀ (l : List T.Tok) (gs : List (List UInt8)) (i : Nat) (h : i < l.length), T.blanked (l.take (i + 1)) gs = T.blanked (l.take i) gs ++ ((((gs[i]?).getD []).flatMap T.blankOf) ++ (32 :: T.one (l[i]'h)))
  | x :: l, gs, 0, h => by
    cases gs <;> simp [T.blanked]
  | x :: l, gs, i + 1, h => by
    have ih := blanked_take l gs.tail i (by simpa using h)
    have hg : gs.tail[i]? = gs[i + 1]? := by cases gs <;> simp
    rw [hg] at ih
    show ((gs.headD []).flatMap T.blankOf) ++ (32 :: T.one x) ++ T.blanked (l.take (i + 1)) gs.tail = (((gs.headD []).flatMap T.blankOf) ++ (32 :: T.one x) ++ T.blanked (l.take i) gs.tail) ++ _
    rw [ih]
    simp only [List.append_assoc, List.getElem_cons_succ]
theorem blankOf_len (c : UInt8) : (T.blankOf c).length ≤ 11 := by
  unfold T.blankOf
  repeat' split
  all_goals decide
theorem blanks_len : ∀ g : List UInt8, (g.flatMap T.blankOf).length ≤ 11 * g.length
  | [] => Nat.le_refl _
  | c :: g => by
    have h1 := blankOf_len c
    have h2 := blanks_len g
    rw [List.flatMap_cons, List.length_append, List.length_cons]
    omega
theorem blanks_take (g : List UInt8) (j : Nat) (h : j < g.length) : (g.take (j + 1)).flatMap T.blankOf = (g.take j).flatMap T.blankOf ++ T.blankOf (g[j]'h) := by
  rw [List.take_succ_eq_append_getElem h, List.flatMap_append]
  simp
theorem write_one (x : T.Tok) (J : List UInt8) (h : T.write [x] = (J, 0)) : T.may x = true ∧ J = T.one x ∧ J.length ≤ 4000 := by
  rcases write_cases _ _ _ h with ⟨_, h1, h2, h3⟩ | ⟨h1, _⟩ | h1
  · exact ⟨by simpa using h1, by rw [← h2]; simp [T.joined, T.tailW], h3⟩
  · cases h1
  · cases h1
def strD (s : ByteArray) : List D := [.str s]
theorem strs_cells {w : World} {B : Nat} : ∀ (l : List ByteArray) (xs : List Value), Rds w B xs (l.flatMap strD) → xs = l.map Value.string ∧ ∀ s ∈ l, s.size ≤ maxLen
  | [], xs, h => by
    obtain rfl := Rds.nil_inv (show Rds w B xs [] from h)
    exact ⟨rfl, fun t ht => by cases ht⟩
  | x :: l, xs, h => by
    rw [List.flatMap_cons] at h
    obtain ⟨v0, u0, rfl, h0, t0⟩ := Rds.cons_inv (show Rds w B xs (.str x :: l.flatMap strD) from h)
    obtain ⟨rfl, w0⟩ := h0.str_inv
    obtain ⟨rfl, hl⟩ := strs_cells l _ t0
    refine ⟨rfl, fun t ht => ?_⟩
    rcases List.mem_cons.1 ht with rfl | ht
    · exact w0
    · exact hl t ht
theorem strs_wts : ∀ (l : List ByteArray), l.length ≤ D.wts (l.flatMap strD)
  | [] => Nat.le_refl _
  | x :: l => by
    have ih := strs_wts l
    have h1 := wts_append (strD x) (l.flatMap strD)
    have h2 : D.wts (strD x) = x.size + 1 := by simp [strD, D.wts, D.wt]
    rw [List.flatMap_cons, List.length_cons]
    omega
theorem plainStr : plainAll Tryz.prog [36, 9] = true := by kernel_rfl
section
variable {H : Type} {enc : TypeId × Value → H} {w : World} {base : Nat} {sp : Nat → Bool} {held : Bool}
set_option maxRecDepth 100000 in
theorem open_strs {r : Reach} {b0 B : Nat} {v : Value} {d : DataW H} {ps : List MemPlace} (hval : Value.okWide Tryz.prog w r b0 36 v) (hd : DataW.Trod enc Tryz.prog w base sp held 36 v d ps)
    (hB : ∀ p ∈ ps, p.block < B) (hk : Rows.uptoBulk d ≤ 1048576) :
    ∃ (l : List ByteArray) (a : Option Addr) (m c : Nat), v = .slice a m c ∧ l.length = m ∧ m ≤ 1048576 ∧ Row w B 1 (.slice a m c) m (l.map Value.string) ∧ ∀ s ∈ l, s.size ≤ maxLen := by
  obtain ⟨a0, n0, c0, rfl⟩ := okWide_slice Tryz.underlying36 hval
  obtain ⟨fuel, hf⟩ := hd
  obtain ⟨ds, hr, hh, hw⟩ := rd_of_trod (B := B) [36, 9] plainStr fuel _ _ _ (List.mem_cons_self ..) hf hB
  obtain ⟨l, rfl⟩ := hh.list_of (e := 9) (k := 1) (f := strD) (by kernel_rfl) (by kernel_rfl) (fun _ => rfl) (fun c _ h => h.str_inv (by kernel_rfl))
  obtain ⟨u, us, hus, h0, _⟩ := hr.cons_inv
  simp only [Value.cells, List.cons.injEq] at hus
  obtain ⟨rfl, _⟩ := hus
  obtain ⟨xs, hrow, hx⟩ := h0.list_inv
  obtain ⟨rfl, hn⟩ := strs_cells l xs hx
  obtain ⟨a, c, he⟩ := hrow.slice
  injection he with e1 e2 e3
  subst e1 e2 e3
  have hwt : D.wts (l.flatMap strD) ≤ 1048576 := by
    simp only [D.wts, D.wt] at hw
    omega
  have g1 := strs_wts l
  exact ⟨l, _, _, _, rfl, rfl, by omega, hrow, hn⟩
end
end
section
open Go.RowKit

/-- each row of bytes that a conversion has laid stands as it stood -/
def Bites (w w' : World) : Prop := ∀ (K : Nat) (cs : Array Value), w.heap[K]? = some (.cells cs 5 (cs.size, cs.size + 1)) → w'.heap[K]? = some (.cells cs 5 (cs.size, cs.size + 1))
theorem Bites.refl (w : World) : Bites w w := fun _ _ h => h
theorem Bites.trans {u v w : World} (h : Bites u v) (k : Bites v w) : Bites u w := fun K cs hK => k K cs (h K cs hK)
theorem Bites.below {w w' : World} (h : Below w.heap.size w w') : Bites w w' := fun K _ hK => (h.block K (lt_of_heap hK)).trans hK
theorem Bites.alloc (w : World) (o : Obj) : Bites w (w.alloc o) := Bites.below ((Below.refl _ _).alloc (Nat.le_refl _) o)
theorem Bites.setOwn {u w : World} (h : Bites u w) {b : Nat} (hb : ∃ cs fz, w.heap[b]? = some (.cells cs 40 fz)) (j : Nat) (v : Value) : Bites u (w.setCell ⟨b, j, none⟩ v) := by
  intro K cs hK
  have h1 := h K cs hK
  obtain ⟨cb, fz, hb⟩ := hb
  rw [Below.heap_setCell w ⟨b, j, none⟩ v K (by
    intro he
    change K = b at he
    subst he
    rw [hb] at h1
    injection h1 with h1
    injection h1 with _ h2
    exact absurd h2 (by decide))]
  exact h1
theorem Bites.grown {w w' : World} {B n : Nat} {v : Value} {xs : List Value} (hown : w.ownsRowF B 5 1 v n xs) (hg : w.grownBy w' v.ownBlock) : Bites w w' := by
  intro K cs hK
  rw [hg.block K (lt_of_heap hK) (fun he => ?_)]
  · exact hK
  · rcases hown.2 with ⟨rfl, _⟩ | ⟨g, cap, cur, fz, rfl, _, hgg, hfz, hn, _, hs, _⟩
    · simp [Value.ownBlock] at he
    · simp [Value.ownBlock] at he
      subst he
      rw [hgg] at hK
      injection hK with hK
      injection hK with h1 _ h3
      subst h1
      subst h3
      simp only at hfz
      omega

theorem bld_checkK (B b : Nat) (bs : List Value) (w : World) (h : Lib.IsBuilderF 40 5 B b bs w) :
    Calls Tryz.prog 34 #[.pointer (some ⟨b, 0, none⟩)] w fun e w' => e = .returned (.tuple #[]) ∧ (Lib.BuilderAtF 40 5 B b (.pointer (some ⟨b, 0, none⟩)) bs w' ∧ Below B w w' ∧ Lib.OthersKept 5 (some b) w w' ∧ Bites w w') := by
  rcases h with h | h
  · refine (bld_check_fresh b w h.cell0 h.shape h.frozen0).mono ?_
    rintro e w' ⟨rfl, rfl⟩
    exact ⟨rfl, h.used _, (Below.refl B w).setCell (p := ⟨b, 0, none⟩) h.1 _, (Lib.OthersKept.refl _ _ w).setCell ⟨b, 0, none⟩ rfl _, (Bites.refl w).setOwn (b := b) (by obtain ⟨_, v, hb, _⟩ := h; exact ⟨_, _, hb⟩) _ _⟩
  · refine (bld_check_used b w h.cell0).mono ?_
    rintro e w' ⟨rfl, rfl⟩
    exact ⟨rfl, h, Below.refl B _, Lib.OthersKept.refl _ _ _, Bites.refl _⟩

set_option maxHeartbeats 2000000 in
set_option maxRecDepth 100000 in
theorem bld_byteK (B b : Nat) (bs : List Value) (c : Int) (w : World) (h : Lib.IsBuilderF 40 5 B b bs w) (hlen : bs.length + 1 ≤ 140737488355328) (hBw : B ≤ w.heap.size) :
    Calls Tryz.prog 15 #[.pointer (some ⟨b, 0, none⟩), .int .u8 c] w fun e w' => e = .returned .nilIface ∧ (Lib.BuilderAtF 40 5 B b (.pointer (some ⟨b, 0, none⟩)) (bs ++ [.int .u8 c]) w' ∧ Below B w w' ∧ Lib.OthersKept 5 (some b) w w' ∧ Bites w w') := by
  obtain ⟨i0, hi, hz0, hz1, hz2⟩ := info_parts bld_info8
  have hsl : Tryz.prog.underlying 38 = some (.slice 5) := by kernel_rfl
  go_enter Tryz.func15, Tryz.ntmps15
  go_wp2_with (go_at_call 34; refine (bld_checkK B b bs _ h).mono ?_)
  rintro e w1 ⟨rfl, h1, hb1, hk1, hq1⟩
  obtain ⟨hB, v, hbk, hown, hne⟩ := h1
  have c0 : w1.cell? ⟨b, 0, none⟩ = some (.pointer (some ⟨b, 0, none⟩)) := by rw [Lib.cell_of_heap hbk]; rfl
  have c1 : w1.cell? ⟨b, 1, none⟩ = some v := by rw [Lib.cell_of_heap hbk]; rfl
  go_wp2_with (at_builtin; refine wpList_append_ownF _ rfl _ _ 38 rfl B 5 i0 (.int .u8 0) 1 1 hsl hi hz0 hz1 hz2 rfl (by decide) _ _ _ rfl (hown.alloc _) ⟨w1.heap.size, 0, none⟩ 1 1 [.int .u8 c] rfl rfl ?c1 ?c2 ?c3 ?c4 ?c5 ?_)
  case c1 =>
    intro j u hj
    match j, hj with
    | 0, hj => simp at hj; subst hj; simp [Addr.add]
  case c2 => intro u hu; simp at hu; subst hu; rfl
  case c3 => unfold maxLen; omega
  case c4 => omega
  case c5 => have := hb1.size; simp; omega
  intro v' w2 hown' hgrow _
  have hlt : b < w1.heap.size := by
    rcases Nat.lt_or_ge b w1.heap.size with h' | h'
    · exact h'
    · simp [Array.getElem?_eq_none h'] at hbk
  have hb2 : w2.heap[b]? = some (.cells #[.pointer (some ⟨b, 0, none⟩), v] 40 (0, 0)) := by
    rw [hgrow.block b (by simp; omega) (fun e => hne e.symm), Lib.alloc_old w1 _ b hlt]
    exact hbk
  have d0 : w2.cell? ⟨b, 0, none⟩ = some (.pointer (some ⟨b, 0, none⟩)) := by rw [Lib.cell_of_heap hb2]; rfl
  have d1 : w2.cell? ⟨b, 1, none⟩ = some v := by rw [Lib.cell_of_heap hb2]; rfl
  have f1 : w2.frozen? ⟨b, 1, none⟩ = false := Lib.frozen_of_heap hb2 1
  obtain ⟨g, cap, rfl⟩ : ∃ g cap, v' = .slice (some ⟨g, 0, none⟩) (bs.length + 1) cap := by
    rcases hown'.2 with ⟨_, h0⟩ | ⟨g, cap, cur, fz, hv, _⟩
    · omega
    · exact ⟨g, cap, hv⟩
  go_wp2
  go_ret
  refine ⟨rfl, ?_, ?_, ((hk1.alloc _).grown hgrow (Lib.ownsRowF_kind (hown.alloc _))).setCell ⟨b, 1, none⟩ rfl _, ((hq1.trans (Bites.alloc _ _)).trans (Bites.grown (hown.alloc _) hgrow)).setOwn (b := b) ⟨_, _, hb2⟩ _ _⟩
  · exact Lib.BuilderAtF.put (T := 40) (e := 5) hB hb2 (bs' := bs ++ [.int .u8 c]) (by simpa using hown') (by decide)
  · exact ((hb1.alloc (by have := hb1.size; omega) _).grown hgrow (by have := hb1.size; simp; omega) (fun k hk => (hown.lt k hk).1)).setCell (p := ⟨b, 1, none⟩) hB _

set_option maxHeartbeats 2000000 in
set_option maxRecDepth 100000 in
theorem bld_stringK (B b : Nat) (bs : List Value) (s : ByteArray) (w : World) (h : Lib.IsBuilderF 40 5 B b bs w) (hlen : bs.length + s.size ≤ 140737488355328) (hBw : B ≤ w.heap.size) :
    Calls Tryz.prog 14 #[.pointer (some ⟨b, 0, none⟩), .string s] w fun e w' => e = .returned (.tuple #[.int .i64 s.size, .nilIface]) ∧ (Lib.BuilderAtF 40 5 B b (.pointer (some ⟨b, 0, none⟩)) (bs ++ Lib.strCells s) w' ∧ Below B w w' ∧ Lib.OthersKept 5 (some b) w w' ∧ Bites w w') := by
  obtain ⟨i0, hi, hz0, hz1, hz2⟩ := info_parts bld_info8
  have hsl : Tryz.prog.underlying 38 = some (.slice 5) := by kernel_rfl
  have hst : Tryz.prog.underlying 9 = some .string := by kernel_rfl
  go_enter Tryz.func14, Tryz.ntmps14
  go_wp2_with (go_at_call 34; refine (bld_checkK B b bs _ h).mono ?_)
  rintro e w1 ⟨rfl, h1, hb1, hk1, hq1⟩
  obtain ⟨hB, v, hbk, hown, hne⟩ := h1
  have c0 : w1.cell? ⟨b, 0, none⟩ = some (.pointer (some ⟨b, 0, none⟩)) := by rw [Lib.cell_of_heap hbk]; rfl
  have c1 : w1.cell? ⟨b, 1, none⟩ = some v := by rw [Lib.cell_of_heap hbk]; rfl
  go_wp2_with (at_builtin; refine Lib.wpList_append_own_stringF _ rfl _ _ 38 9 rfl B 5 i0 hsl hst hi hz0 hz1 hz2 _ _ _ rfl hown s rfl ?c3 ?c4 ?c5 ?_)
  case c3 => unfold maxLen; omega
  case c4 => omega
  case c5 => have := hb1.size; omega
  intro v' w2 hown' hgrow _
  have hlt : b < w1.heap.size := by
    rcases Nat.lt_or_ge b w1.heap.size with h' | h'
    · exact h'
    · simp [Array.getElem?_eq_none h'] at hbk
  have hb2 : w2.heap[b]? = some (.cells #[.pointer (some ⟨b, 0, none⟩), v] 40 (0, 0)) := by
    rw [hgrow.block b hlt (fun e => hne e.symm)]
    exact hbk
  have d0 : w2.cell? ⟨b, 0, none⟩ = some (.pointer (some ⟨b, 0, none⟩)) := by rw [Lib.cell_of_heap hb2]; rfl
  have d1 : w2.cell? ⟨b, 1, none⟩ = some v := by rw [Lib.cell_of_heap hb2]; rfl
  have f1 : w2.frozen? ⟨b, 1, none⟩ = false := Lib.frozen_of_heap hb2 1
  obtain ⟨ao, n', cap, rfl⟩ : ∃ ao n' cap, v' = .slice ao n' cap := by
    rcases hown'.2 with ⟨hv, _⟩ | ⟨g, cap, cur, fz, hv, _⟩
    · exact ⟨_, _, _, hv⟩
    · exact ⟨_, _, _, hv⟩
  go_wp2
  go_ret2
  refine ⟨rfl, ?_, ?_, (hk1.grown hgrow (Lib.ownsRowF_kind hown)).setCell ⟨b, 1, none⟩ rfl _, (hq1.trans (Bites.grown hown hgrow)).setOwn (b := b) ⟨_, _, hb2⟩ _ _⟩
  · exact Lib.BuilderAtF.put (T := 40) (e := 5) hB hb2 (bs' := bs ++ Lib.strCells s) (by simpa [Lib.strCells_length] using hown') (by decide)
  · exact (hb1.grown hgrow (by have := hb1.size; omega) (fun k hk => (hown.lt k hk).1)).setCell (p := ⟨b, 1, none⟩) hB _

end
open Go.RowKit

theorem row_str {w : World} {B : Nat} {a : Option Addr} {n c : Nat} {l : List ByteArray} (h : Row w B 1 (.slice a n c) n (l.map Value.string)) (i : Nat) (hi : i < l.length) (hn : l.length = n) :
    ∃ g off, a = some ⟨g, off, none⟩ ∧ g < B ∧ n ≤ c ∧ w.cell? ⟨g, off + i, none⟩ = some (.string (l[i]'hi)) := by
  rcases h.2.2 with ⟨h0, _⟩ | ⟨g, off, cap, hv, hb, hc, hx⟩
  · omega
  · injection hv with h1 h2 h3
    subst h1 h3
    exact ⟨g, off, rfl, hb, hc, hx i _ (by rw [List.getElem?_map, List.getElem?_eq_getElem hi]; rfl)⟩
theorem one_row (wr : World) (k : Int) (tt : List UInt8) (n pa pl pc : Int) : Row ((wr.alloc (.cells #[.int .u8 k, .string ⟨tt.toArray⟩, .int .i64 n, .int .i64 pa, .int .i64 pl, .int .i64 pc] 42)).alloc (.cells #[.int .u8 k, .string ⟨tt.toArray⟩, .int .i64 n, .int .i64 pa, .int .i64 pl, .int .i64 pc] 42)) ((wr.alloc (.cells #[.int .u8 k, .string ⟨tt.toArray⟩, .int .i64 n, .int .i64 pa, .int .i64 pl, .int .i64 pc] 42)).alloc (.cells #[.int .u8 k, .string ⟨tt.toArray⟩, .int .i64 n, .int .i64 pa, .int .i64 pl, .int .i64 pc] 42)).heap.size 6 (.slice (some ⟨wr.heap.size + 1, 0, none⟩) 1 1) 1 (toksCells [⟨k, tt, n, ⟨pa, pl, pc⟩⟩]) := by
  have h := Row.toks (wr.alloc (.cells #[.int .u8 k, .string ⟨tt.toArray⟩, .int .i64 n, .int .i64 pa, .int .i64 pl, .int .i64 pc] 42)) [⟨k, tt, n, ⟨pa, pl, pc⟩⟩] 1 rfl (by omega)
  have e : (wr.alloc (.cells #[.int .u8 k, .string ⟨tt.toArray⟩, .int .i64 n, .int .i64 pa, .int .i64 pl, .int .i64 pc] 42)).heap.size = wr.heap.size + 1 := by simp
  rw [e] at h
  exact h

theorem str_cons (O : List UInt8) : ((⟨#[32]⟩ : ByteArray) ++ ⟨O.toArray⟩) = ⟨(32 :: O).toArray⟩ := by
  apply ByteArray.ext
  rw [ByteArray.data_append]
  simp

set_option maxRecDepth 50000 in
set_option maxHeartbeats 4000000 in
theorem LexBlanks_walk (G : Nat) (l : List T.Tok) (a : Option Addr) (m c : Nat) (gs : List ByteArray) (a2 : Option Addr) (m2 c2 : Nat) (w : World) (hT : Tabs G w) (hm : l.length = m) (hmm : m ≤ 100000000) (hok : ∀ t ∈ l, TokOk t)
    (hrow : Row w w.heap.size 6 (.slice a m c) m (toksCells l)) (hm2 : gs.length = m2) (hmm2 : m2 ≤ 100000000) (hg : ∀ s ∈ gs, s.size ≤ maxLen) (hrow2 : Row w w.heap.size 1 (.slice a2 m2 c2) m2 (gs.map Value.string)) :
    Calls Tryz.prog 5 #[.slice a m c, .slice a2 m2 c2] w fun e w' => e = .returned (.bool true) ∧ Below w.heap.size w w' := by
  have HK := Lib.hid (known_any G w hT)
  have HTAB := Lib.hid (fun (W : World) (h : Below w.heap.size w W) => hT.below (h.mono hT.le))
  have HM := Lib.hid hm
  have HOK := Lib.hid hok
  have HROW := Lib.hid hrow
  have HM2 := Lib.hid hm2
  have HG := Lib.hid hg
  have HROW2 := Lib.hid hrow2
  obtain ⟨GL, hGL⟩ : ∃ L, gs.map (fun s => s.data.toList) = L := ⟨_, rfl⟩
  have HGL := Lib.hid hGL
  clear hT hm hok hrow hm2 hg hrow2 hGL
  go_enter Tryz.func5, Tryz.ntmps5
  go_wp2_with fail
  refine HK.out.mono ?_
  rintro _ w0 ⟨rfl, hb0⟩
  have R0 := Lib.hid (HROW.out.step hb0)
  have S0 := Lib.hid (HROW2.out.step hb0)
  have HB0 := Lib.hid hb0
  clear hb0
  go_wp2_with fail
  refine (great_any l a m c w0 HM.out hmm HOK.out R0.out).mono ?_
  rintro _ w1 ⟨hg, hb1⟩
  have R1 := Lib.hid (R0.out.step hb1)
  have S1 := Lib.hid (S0.out.step hb1)
  have HB1 := Lib.hid (below_call HB0.out hb1)
  clear hb1
  rcases hg with ⟨rfl, hm20⟩ | rfl
  · by_cases h8 : 400 < m2
    · have h8' : decide ((400 : Int) < (m2 : Int)) = true := decide_eq_true (by omega)
      go_wp2
      go_ret
      refine ⟨rfl, ?_⟩
      (repeat (with_reducible first | exact HB1.out | refine Below.setCell ?_ ?_ _ | refine Below.alloc ?_ ?_ _ | refine Below.drewN ?_ _ | refine Below.drew ?_)) <;> first | omega | (simp; omega) | (simp; done)
    · have h8' : decide ((400 : Int) < (m2 : Int)) = false := decide_eq_false (by omega)
      go_wp2
      go_loopw [25] (fun u wr => ∃ (i : Nat) (P : List UInt8), u = .int .i64 i ∧ i ≤ m ∧ P = T.blanked (l.take i) GL ∧ (l.take i).all T.may = true ∧ P.length ≤ i * 8000 ∧ Lib.IsBuilderF 40 5 w1.heap.size w1.heap.size (Lib.byteCells P) wr ∧ Below w1.heap.size w1 wr) (fun u _ => m - (intOf u).toNat)
      case atStart =>
        refine ⟨0, [], rfl, Nat.zero_le _, rfl, rfl, Nat.zero_le _, Lib.IsBuilderF.of (Lib.fresh_isBuilder _ _ w1), ?_⟩
        (repeat (with_reducible first | exact Below.refl _ _ | refine Below.setCell ?_ ?_ _ | refine Below.alloc ?_ ?_ _ | refine Below.drewN ?_ _ | refine Below.drew ?_)) <;> first | omega | (simp; omega) | (simp; done)
      case round =>
        obtain ⟨i, P, rfl, hi, hP, hall, hPl, hbu, hbe⟩ := hrel
        have hse := hbe.size
        have HALL := Lib.hid hall
        have HPP := Lib.hid hP
        have HBU := Lib.hid hbu
        have HBE := Lib.hid hbe
        have hwlt : w1.heap.size < wr.heap.size := by rcases hbu with h | h <;> exact h.lt
        clear hall hP hbu
        by_cases hlt : i < m
        · have hil : i < l.length := by rw [HM.out]; exact hlt
          obtain ⟨g, off, rfl, hg, hc, d0, d1, d2, d3, d4, d5⟩ := row_tok R1.out HM.out i hil
          have hto := HOK.out _ (List.getElem_mem hil)
          have hbt := blanked_take l GL i hil
          have han := all_take l i hil
          obtain ⟨x, hx⟩ : ∃ x, l[i]'hil = x := ⟨_, rfl⟩
          rw [hx] at d0 d1 d2 d3 d4 d5 hto hbt han
          obtain ⟨k, tt, n, ⟨pa, pl, pc⟩⟩ := x
          simp only at d0 d1 d2 d3 d4 d5
          have e0 := (hbe.cell (p := ⟨g, off + i * 6, none⟩) hg).trans d0
          have e1 := (hbe.cell (p := ⟨g, off + i * 6 + 1, none⟩) hg).trans d1
          have e2 := (hbe.cell (p := ⟨g, off + i * 6 + 2, none⟩) hg).trans d2
          have e3 := (hbe.cell (p := ⟨g, off + i * 6 + 3, none⟩) hg).trans d3
          have e4 : wr.cell? ⟨g, off + i * 6 + 3 + 1, none⟩ = _ := (hbe.cell (p := ⟨g, off + i * 6 + 4, none⟩) hg).trans d4
          have e5 : wr.cell? ⟨g, off + i * 6 + 3 + 2, none⟩ = _ := (hbe.cell (p := ⟨g, off + i * 6 + 5, none⟩) hg).trans d5
          obtain ⟨⟨O, E1⟩, hO⟩ : ∃ R, T.write [⟨k, tt, n, ⟨pa, pl, pc⟩⟩] = R := ⟨_, rfl⟩
          have HTO := Lib.hid hto
          have HBT := Lib.hid hbt
          have HAN := Lib.hid han
          have HO := Lib.hid hO
          have hone := write_one ⟨k, tt, n, ⟨pa, pl, pc⟩⟩ O
          have HONE := Lib.hid hone
          clear hx d0 d1 d2 d3 d4 d5 hbe hto hbt han hO hone
          have him : (i : Int) < (m : Int) := by omega
          go_wp2_with fail
          refine (write_any G [⟨k, tt, n, ⟨pa, pl, pc⟩⟩] (some ⟨wr.heap.size + 1, 0, none⟩) 1 1 _ (HTAB.out _ (below_call HB1.out (by (repeat (with_reducible first | exact HBE.out | refine Below.setCell ?_ ?_ _ | refine Below.alloc ?_ ?_ _ | refine Below.drewN ?_ _ | refine Below.drew ?_)) <;> first | omega | (simp; omega) | (simp; done) : Below w1.heap.size w1 _))) rfl (by omega) (fun t ht => by rw [List.mem_singleton.1 ht]; exact HTO.out) (one_row wr k tt n pa pl pc)).mono ?_
          rw [HO.out]
          rintro _ w2 ⟨rfl, hb2⟩
          have HB2 := Lib.hid ((by (repeat (with_reducible first | exact HBE.out | refine Below.setCell ?_ ?_ _ | refine Below.alloc ?_ ?_ _ | refine Below.drewN ?_ _ | refine Below.drew ?_)) <;> first | omega | (simp; omega) | (simp; done) : Below w1.heap.size w1 _).trans (hb2.mono (by simp; omega)))
          have HBU2 := Lib.hid (builder_below (Lib.IsBuilderF.alloc (Lib.IsBuilderF.alloc HBU.out _) _) hb2)
          have hs2 := hb2.size
          simp only [World.size_alloc] at hs2
          clear hb2 e0 e1 e2 e3 e4 e5
          by_cases hE : E1 = 0
          · subst hE
            obtain ⟨hmx, hOx, hOl⟩ := HONE.out HO.out
            have HMX := Lib.hid hmx
            have HOX := Lib.hid hOx
            clear hmx hOx
            by_cases him2 : i < m2
            · have hgl : i < gs.length := by rw [HM2.out]; exact him2
              obtain ⟨g2, off2, rfl, hg2, hc2, dd⟩ := row_str S1.out i hgl HM2.out
              have hsz := HG.out _ (List.getElem_mem hgl)
              have hGi : (GL[i]?).getD [] = (gs[i]'hgl).data.toList := by rw [← HGL.out, List.getElem?_map, List.getElem?_eq_getElem hgl]; rfl
              obtain ⟨s, hs⟩ : ∃ s, gs[i]'hgl = s := ⟨_, rfl⟩
              rw [hs] at dd hsz hGi
              have ee := (HB2.out.cell (p := ⟨g2, off2 + i, none⟩) hg2).trans dd
              have HGI := Lib.hid hGi
              have hlm : (i : Int) < (m2 : Int) := by omega
              clear hs hGi dd
              by_cases h100 : 100 < s.size
              · have h100' : decide ((100 : Int) < (s.size : Int)) = true := decide_eq_true (by omega)
                go_wp2
                go_ret
                refine ⟨rfl, ?_⟩
                exact below_call HB1.out HB2.out
              · have h100' : decide ((100 : Int) < (s.size : Int)) = false := decide_eq_false (by omega)
                have hcv := Lib.run_convert_string_bytes (P := Tryz.prog) w2 9 38 5 s Tryz.underlying9 Tryz.underlying38 Tryz.underlying5
                go_wp2_with fail
                obtain ⟨V, hV⟩ : ∃ V, Lib.bytesWorld w2 5 s = V := ⟨_, rfl⟩
                have hVb : Below w2.heap.size w2 V := by rw [← hV]; exact Lib.bytesWorld_below _ _ _
                have hVk := Lib.bytesWorld_at_new w2 5 s
                have hVs := Lib.bytesWorld_size w2 5 s
                have hVc := fun j hj => Lib.bytesWorld_cell w2 5 s j hj
                obtain ⟨CS, hCS⟩ : ∃ C, Lib.bytesCells w2 5 s = C := ⟨_, rfl⟩
                rw [hV, hCS] at hVk
                rw [hV] at hVs ⊢
                simp only [hV] at hVc
                have hln : s.data.toList.length = s.size := by rw [Array.length_toList]; rfl
                have hcell : ∀ j (hj : j < s.data.toList.length), CS[j]? = some (.int .u8 (s.data.toList[j]'hj).toNat) := by
                  intro j hj
                  have h1 := hVc j (by omega)
                  rw [Lib.cell_of_heap hVk j] at h1
                  have h2 : s.data.toList.getD j 0 = s.data.toList[j]'hj := by rw [List.getD_eq_getElem?_getD, List.getElem?_eq_getElem hj]; rfl
                  rw [h2] at h1
                  exact h1
                obtain ⟨gl, hgl2⟩ : ∃ L, s.data.toList = L := ⟨_, rfl⟩
                rw [hgl2] at hln hcell HGI
                have HCELL := Lib.hid hcell
                have HKV := Lib.hid hVk
                have HUV := Lib.hid (builder_below HBU2.out hVb)
                have HBV := Lib.hid (HB2.out.trans (hVb.mono (by omega)))
                have hs3 : w2.heap.size < V.heap.size := by omega
                clear hV hVb hVk hVs hVc hCS hcell hgl2 hcv ee
                go_loopw [54] (fun u wq => ∃ j : Nat, u = .int .i64 j ∧ j ≤ s.size ∧ Lib.IsBuilderF 40 5 w1.heap.size w1.heap.size (Lib.byteCells (P ++ (gl.take j).flatMap T.blankOf)) wq ∧ Below w1.heap.size w1 wq ∧ V.heap.size ≤ wq.heap.size ∧ wq.heap[w2.heap.size]? = some (.cells CS 5 (CS.size, CS.size + 1))) (fun u _ => s.size - (intOf u).toNat)
                case atStart =>
                  refine ⟨0, rfl, Nat.zero_le _, ?_, HBV.out, Nat.le_refl _, HKV.out⟩
                  rw [List.take_zero, List.flatMap_nil, List.append_nil]
                  exact HUV.out
                case round =>
                  obtain ⟨j, rfl, hj, hbq, hbeq, hsq, hkq⟩ := hrel
                  have HBQ := Lib.hid hbeq
                  have HUQ := Lib.hid hbq
                  have HKQ := Lib.hid hkq
                  have hblen := blanks_len (gl.take j)
                  have hblen2 : (P ++ (gl.take j).flatMap T.blankOf).length ≤ 160100000 := by
                    rw [List.length_append]
                    rw [List.length_take] at hblen
                    omega
                  have hsz1 := hbeq.size
                  clear hbeq hbq hblen
                  by_cases hjl : j < s.size
                  · have hjg : j < gl.length := by omega
                    have hx : wr.cell? ⟨w2.heap.size, j, none⟩ = some (.int .u8 (gl[j]'hjg).toNat) := by rw [Lib.cell_of_heap hkq]; exact HCELL.out j hjg
                    have hbk := blanks_take gl j hjg
                    obtain ⟨cc, hcc⟩ : ∃ x, gl[j]'hjg = x := ⟨_, rfl⟩
                    rw [hcc] at hx hbk
                    have HBK := Lib.hid hbk
                    have hjs : (j : Int) < (s.size : Int) := by omega
                    clear hkq hbk hcc
                    have hcd5 : cc.toNat % 5 < 5 := Nat.mod_lt _ (by omega)
                    rcases (show cc.toNat % 5 = 0 ∨ cc.toNat % 5 = 1 ∨ cc.toNat % 5 = 2 ∨ cc.toNat % 5 = 3 ∨ cc.toNat % 5 = 4 by omega) with hcd | hcd | hcd | hcd | hcd
                    · skip
                      have hr : (cc.toNat : Int).tmod 5 = 0 := by rw [Int.tmod_eq_emod_of_nonneg (by omega)]; omega
                      have hw : IntKind.u8.wrap 0 = 0 := by decide
                      have hd4 : ((0 : Int) == 4) = false := by decide
                      have hbl : T.blankOf cc = [32] := by unfold T.blankOf; simp [hcd]
                      have HBL := Lib.hid hbl
                      clear hbl hcd
                      go_wp2_with fail
                      refine (bld_byteK w1.heap.size w1.heap.size _ 32 wr HUQ.out (by rw [Lib.byteCells_length]; omega) (by omega)).mono ?_
                      rintro e w4 ⟨rfl, hb4, hbe4, _, hq4⟩
                      go_wp2
                      refine ⟨⟨j + 1, by rw [Int.natCast_add]; rfl, by omega, ?_, HBQ.out.trans hbe4, by have := hbe4.size; omega, hq4 _ _ HKQ.out⟩, by simp [intOf]; omega⟩
                      rw [HBK.out, HBL.out, ← List.append_assoc, Lib.byteCells_append]
                      exact .inr hb4
                    · skip
                      have hr : (cc.toNat : Int).tmod 5 = 1 := by rw [Int.tmod_eq_emod_of_nonneg (by omega)]; omega
                      have hw : IntKind.u8.wrap 1 = 1 := by decide
                      have hd4 : ((1 : Int) == 4) = false := by decide
                      have hbl : T.blankOf cc = [9] := by unfold T.blankOf; simp [hcd]
                      have HBL := Lib.hid hbl
                      clear hbl hcd
                      go_wp2_with fail
                      refine (bld_byteK w1.heap.size w1.heap.size _ 9 wr HUQ.out (by rw [Lib.byteCells_length]; omega) (by omega)).mono ?_
                      rintro e w4 ⟨rfl, hb4, hbe4, _, hq4⟩
                      go_wp2
                      refine ⟨⟨j + 1, by rw [Int.natCast_add]; rfl, by omega, ?_, HBQ.out.trans hbe4, by have := hbe4.size; omega, hq4 _ _ HKQ.out⟩, by simp [intOf]; omega⟩
                      rw [HBK.out, HBL.out, ← List.append_assoc, Lib.byteCells_append]
                      exact .inr hb4
                    · skip
                      have hr : (cc.toNat : Int).tmod 5 = 2 := by rw [Int.tmod_eq_emod_of_nonneg (by omega)]; omega
                      have hw : IntKind.u8.wrap 2 = 2 := by decide
                      have hd4 : ((2 : Int) == 4) = false := by decide
                      have hbl : T.blankOf cc = [10] := by unfold T.blankOf; simp [hcd]
                      have HBL := Lib.hid hbl
                      clear hbl hcd
                      go_wp2_with fail
                      refine (bld_byteK w1.heap.size w1.heap.size _ 10 wr HUQ.out (by rw [Lib.byteCells_length]; omega) (by omega)).mono ?_
                      rintro e w4 ⟨rfl, hb4, hbe4, _, hq4⟩
                      go_wp2
                      refine ⟨⟨j + 1, by rw [Int.natCast_add]; rfl, by omega, ?_, HBQ.out.trans hbe4, by have := hbe4.size; omega, hq4 _ _ HKQ.out⟩, by simp [intOf]; omega⟩
                      rw [HBK.out, HBL.out, ← List.append_assoc, Lib.byteCells_append]
                      exact .inr hb4
                    · skip
                      have hr : (cc.toNat : Int).tmod 5 = 3 := by rw [Int.tmod_eq_emod_of_nonneg (by omega)]; omega
                      have hw : IntKind.u8.wrap 3 = 3 := by decide
                      have hd4 : ((3 : Int) == 4) = false := by decide
                      have hbl : T.blankOf cc = [13] := by unfold T.blankOf; simp [hcd]
                      have HBL := Lib.hid hbl
                      clear hbl hcd
                      go_wp2_with fail
                      refine (bld_byteK w1.heap.size w1.heap.size _ 13 wr HUQ.out (by rw [Lib.byteCells_length]; omega) (by omega)).mono ?_
                      rintro e w4 ⟨rfl, hb4, hbe4, _, hq4⟩
                      go_wp2
                      refine ⟨⟨j + 1, by rw [Int.natCast_add]; rfl, by omega, ?_, HBQ.out.trans hbe4, by have := hbe4.size; omega, hq4 _ _ HKQ.out⟩, by simp [intOf]; omega⟩
                      rw [HBK.out, HBL.out, ← List.append_assoc, Lib.byteCells_append]
                      exact .inr hb4
                    · have hr : (cc.toNat : Int).tmod 5 = 4 := by rw [Int.tmod_eq_emod_of_nonneg (by omega)]; omega
                      have hw : IntKind.u8.wrap 4 = 4 := by decide
                      have hbl : T.blankOf cc = [32, 45, 45, 32, 105, 116, 39, 115, 32, 34, 10] := by unfold T.blankOf; simp [hcd]
                      have HBL := Lib.hid hbl
                      clear hbl hcd
                      go_wp2_with fail
                      refine (bld_stringK w1.heap.size w1.heap.size _ ⟨#[32, 45, 45, 32, 105, 116, 39, 115, 32, 34, 10]⟩ wr HUQ.out (by rw [Lib.byteCells_length]; show _ + 11 ≤ _; omega) (by omega)).mono ?_
                      rintro e w4 ⟨rfl, hb4, hbe4, _, hq4⟩
                      go_wp2
                      refine ⟨⟨j + 1, by rw [Int.natCast_add]; rfl, by omega, ?_, HBQ.out.trans hbe4, by have := hbe4.size; omega, hq4 _ _ HKQ.out⟩, by simp [intOf]; omega⟩
                      rw [HBK.out, HBL.out, ← List.append_assoc, Lib.byteCells_append]
                      exact .inr hb4
                  · have hjs : ¬ (j : Int) < (s.size : Int) := by omega
                    have htj : gl.take j = gl := List.take_of_length_le (by omega)
                    rw [htj] at HUQ hblen2
                    have HQB := HUQ
                    have HBZ := HBQ
                    have hgapl := blanks_len gl
                    have HGG := Lib.hid (show ((GL[i]?).getD []).flatMap T.blankOf = gl.flatMap T.blankOf by rw [HGI.out])
                    clear htj hkq
                    go_wp2_with fail
                    rw [str_cons]
                    refine (bld_stringK w1.heap.size w1.heap.size (Lib.byteCells (P ++ gl.flatMap T.blankOf)) ⟨(32 :: O).toArray⟩ wr HQB.out (by rw [Lib.byteCells_length, List.length_append]; show _ + (32 :: O).toArray.size ≤ _; rw [List.size_toArray, List.length_cons]; omega) (by omega)).mono ?_
                    rintro e w5 ⟨rfl, hb5, hbe5, _, _⟩
                    go_wp2
                    refine ⟨⟨i + 1, P ++ (gl.flatMap T.blankOf ++ (32 :: O)), by rw [Int.natCast_add]; rfl, by omega, ?_, ?_, ?_, ?_, HBZ.out.trans hbe5⟩, by simp [intOf]; omega⟩
                    · rw [HBT.out, HGG.out, ← HPP.out, ← HOX.out]
                    · rw [HAN.out, HALL.out, HMX.out]; rfl
                    · rw [List.length_append, List.length_append, List.length_cons]; omega
                    · rw [← List.append_assoc, Lib.byteCells_append]
                      exact .inr hb5
            · have hGi : (GL[i]?).getD [] = [] := by rw [← HGL.out, List.getElem?_map, List.getElem?_eq_none (by rw [HM2.out]; omega)]; rfl
              have HGI := Lib.hid hGi
              have hlm : ¬ (i : Int) < (m2 : Int) := by omega
              clear hGi
              have HQB := Lib.hid (show Lib.IsBuilderF 40 5 w1.heap.size w1.heap.size (Lib.byteCells (P ++ [])) w2 by rw [List.append_nil]; exact HBU2.out)
              have HBZ := HB2
              have hgapl : ([] : List UInt8).length ≤ 1100 := Nat.zero_le _
              have HGG := Lib.hid (show ((GL[i]?).getD []).flatMap T.blankOf = [] by rw [HGI.out]; rfl)
              go_wp2_with fail
              rw [str_cons]
              refine (bld_stringK w1.heap.size w1.heap.size (Lib.byteCells (P ++ [])) ⟨(32 :: O).toArray⟩ w2 HQB.out (by rw [Lib.byteCells_length, List.length_append]; show _ + (32 :: O).toArray.size ≤ _; rw [List.size_toArray, List.length_cons]; omega) (by omega)).mono ?_
              rintro e w5 ⟨rfl, hb5, hbe5, _, _⟩
              go_wp2
              refine ⟨⟨i + 1, P ++ ([] ++ (32 :: O)), by rw [Int.natCast_add]; rfl, by omega, ?_, ?_, ?_, ?_, HBZ.out.trans hbe5⟩, by simp [intOf]; omega⟩
              · rw [HBT.out, HGG.out, ← HPP.out, ← HOX.out]
              · rw [HAN.out, HALL.out, HMX.out]; rfl
              · rw [List.length_append, List.length_append, List.length_cons]; omega
              · rw [← List.append_assoc, Lib.byteCells_append]
                exact .inr hb5
          · have hEd : (E1 != 0) = true := by rw [bne_iff_ne]; exact hE
            go_wp2
            go_ret
            exact ⟨rfl, below_call HB1.out HB2.out⟩
        · have hmi : i = m := by omega
          subst hmi
          have htk : l.take i = l := List.take_of_length_le (by rw [HM.out]; omega)
          have hPeq : P = T.blanked l GL := by rw [HPP.out, htk]
          have hall2 : l.all T.may = true := by rw [← htk]; exact HALL.out
          have HPE := Lib.hid hPeq
          have HAL2 := Lib.hid hall2
          clear hbe htk hPeq hall2
          go_wp2_with fail
          refine (Tryz.Builder_Len_f w1.heap.size w1.heap.size _ wr HBU.out).mono ?_
          rintro e w5 ⟨rfl, rfl⟩
          by_cases h4 : 4000 < P.length
          · have hL4 : decide ((4000 : Int) < ((Lib.byteCells P).length : Int)) = true := by rw [Lib.byteCells_length]; exact decide_eq_true (by omega)
            go_wp2
            go_ret
            exact ⟨rfl, below_call HB1.out HBE.out⟩
          · have hL4 : decide ((4000 : Int) < ((Lib.byteCells P).length : Int)) = false := by rw [Lib.byteCells_length]; exact decide_eq_false (by omega)
            obtain ⟨ms, hms, hsame⟩ := T.blanks l GL HAL2.out (by rw [← HPE.out]; omega)
            rw [← HPE.out] at hms
            have hml := (tok_fits _ _ _ hms).1
            have HMS := Lib.hid hms
            have HSAME := Lib.hid hsame
            clear hms hsame
            go_wp2_with fail
            refine (Tryz.Builder_String_any_k w1.heap.size w1.heap.size P _ HBU.out (by omega)).mono ?_
            rintro e w2 ⟨rfl, _, hk2, _⟩
            have HB2 := Lib.hid (HBE.out.trans hk2)
            clear hk2
            go_wp2_with fail
            refine (tokens_own G ⟨P.toArray⟩ ms 0 0 0 0 HMS.out (by show P.toArray.size ≤ _; rw [List.size_toArray]; unfold maxLen; omega) w2 (HTAB.out _ (below_call HB1.out HB2.out))).mono ?_
            rintro _ w3 ⟨a3, c3, rfl, hb3, hown3⟩
            have R3 := Lib.hid (Row.own hown3 (Nat.le_refl _))
            have hs23 := HB2.out.size
            have HB3 := Lib.hid (HB2.out.trans (hb3.mono hs23))
            have hsz3 := HB3.out.size
            clear hb3 hown3
            go_wp2_with fail
            refine (same_below ms l a3 a ms.length i c3 c false _ rfl HM.out (by omega) (by omega) ((R3.out.below (by (repeat (with_reducible first | exact Below.refl _ _ | refine Below.setCell ?_ ?_ _ | refine Below.alloc ?_ ?_ _ | refine Below.drewN ?_ _ | refine Below.drew ?_)) <;> first | omega | (simp; omega) | (simp; done))).mono (by simp)) ((R1.out.below (by (repeat (with_reducible first | exact HB3.out | refine Below.setCell ?_ ?_ _ | refine Below.alloc ?_ ?_ _ | refine Below.drewN ?_ _ | refine Below.drew ?_)) <;> first | omega | (simp; omega) | (simp; done))).mono (by simp; omega))).mono ?_
            rintro _ w6 ⟨rfl, hb6⟩
            have HB6 := Lib.hid (below_call (below_call HB1.out (by (repeat (with_reducible first | exact HB3.out | refine Below.setCell ?_ ?_ _ | refine Below.alloc ?_ ?_ _ | refine Below.drewN ?_ _ | refine Below.drew ?_)) <;> first | omega | (simp; omega) | (simp; done) : Below w1.heap.size w1 _)) hb6)
            clear hb6
            rw [same_L, HSAME.out]
            go_wp2
            go_ret
            exact ⟨rfl, HB6.out⟩
  · go_wp2
    go_ret
    refine ⟨rfl, ?_⟩
    (repeat (with_reducible first | exact HB1.out | refine Below.setCell ?_ ?_ _ | refine Below.alloc ?_ ?_ _ | refine Below.drewN ?_ _ | refine Below.drew ?_)) <;> first | omega | (simp; omega) | (simp; done)
end Go.Proofs.YtaojgcioljcpmaaGreatDoor
