/- Contract: (*strings.byteStringReplacer).Replace at the four pairs. -/
import Derived.Test.YtaojgcioljcpmaaGreatDoorRepB
import Derived.Laws.IdiomCopy
import Derived.Deep.RegionLaw
namespace Go.Proofs.YtaojgcioljcpmaaGreatDoor
open Go.RowKit

def spec4 (b : UInt8) : Bool := b == 92 || b == 34 || b == 10 || b == 9
def cnt4 (l : List UInt8) : Nat := l.countP spec4
theorem esc_len (b : UInt8) : (T.esc b).length = if spec4 b then 2 else 1 := by
  unfold T.esc spec4
  repeat' split
  all_goals simp_all
theorem escs_len (l : List UInt8) : (l.flatMap T.esc).length = l.length + cnt4 l := by
  induction l with
  | nil => rfl
  | cons x l ih =>
    rw [List.flatMap_cons, List.length_append, ih, esc_len]
    unfold cnt4
    rw [List.countP_cons]
    cases spec4 x <;> simp <;> omega
theorem cnt_take (l : List UInt8) (i : Nat) (h : i < l.length) : cnt4 (l.take (i + 1)) = cnt4 (l.take i) + (if spec4 (l[i]'h) then 1 else 0) := by
  unfold cnt4
  rw [take_snoc' l i h, List.countP_append]
  simp [List.countP_cons]

theorem u8_eq {x : UInt8} {n : Nat} (h : x.toNat = n) (hn : n < 256) : x = UInt8.ofNat n := by
  apply UInt8.toNat_inj.1
  rw [h, UInt8.toNat_ofNat']
  exact (Nat.mod_eq_of_lt hn).symm
/-- what stands in the table at a byte -/
theorem repl_at {w : World} {B b : Nat} (h : RepAt w B b) (x : UInt8) :
    (spec4 x = true ∧ ∃ (G K : Nat) (y z : UInt8), w.cell? ⟨b, x.toNat, none⟩ = some (.slice (some ⟨G, 0, none⟩) 2 K) ∧ G < w.heap.size ∧ w.cell? ⟨G, 0, none⟩ = some (.int .u8 y.toNat) ∧ w.cell? ⟨G, 1, none⟩ = some (.int .u8 z.toNat) ∧ T.esc x = [y, z]) ∨
    (spec4 x = false ∧ w.cell? ⟨b, x.toNat, none⟩ = some (.slice none 0 0) ∧ T.esc x = [x]) := by
  obtain ⟨cs, G0, K0, G1, K1, G2, K2, G3, K3, tv, hB, hbl, hc, hl, hown, ⟨hg0, hg1, hg2, hg3⟩, r0, r1, r2, r3⟩ := h
  have hcell := (hbl.cell x.toNat).trans (hc _ x.toNat_lt)
  by_cases h92 : x.toNat = 92
  · rw [if_pos h92] at hcell
    have := u8_eq h92 (by decide); subst this
    exact .inl ⟨rfl, G3, K3, 92, 92, hcell, hg3, r3.1, r3.2, rfl⟩
  · rw [if_neg h92] at hcell
    by_cases h34 : x.toNat = 34
    · rw [if_pos h34] at hcell
      have := u8_eq h34 (by decide); subst this
      exact .inl ⟨rfl, G2, K2, 92, 34, hcell, hg2, r2.1, r2.2, rfl⟩
    · rw [if_neg h34] at hcell
      by_cases h10 : x.toNat = 10
      · rw [if_pos h10] at hcell
        have := u8_eq h10 (by decide); subst this
        exact .inl ⟨rfl, G1, K1, 92, 110, hcell, hg1, r1.1, r1.2, rfl⟩
      · rw [if_neg h10] at hcell
        by_cases h9 : x.toNat = 9
        · rw [if_pos h9] at hcell
          have := u8_eq h9 (by decide); subst this
          exact .inl ⟨rfl, G0, K0, 92, 116, hcell, hg0, r0.1, r0.2, rfl⟩
        · rw [if_neg h9] at hcell
          have e92 : (x == 92) = false := by rw [beq_eq_false_iff_ne]; intro h; exact h92 (by rw [h]; rfl)
          have e34 : (x == 34) = false := by rw [beq_eq_false_iff_ne]; intro h; exact h34 (by rw [h]; rfl)
          have e10 : (x == 10) = false := by rw [beq_eq_false_iff_ne]; intro h; exact h10 (by rw [h]; rfl)
          have e9 : (x == 9) = false := by rw [beq_eq_false_iff_ne]; intro h; exact h9 (by rw [h]; rfl)
          refine .inr ⟨?_, hcell, ?_⟩
          · unfold spec4
            rw [e92, e34, e10, e9]; rfl
          · unfold T.esc
            simp only [beq_eq_false_iff_ne] at e92 e34 e10 e9
            simp [e92, e34, e10, e9]
theorem esc_id (l : List UInt8) (h : cnt4 l = 0) : l.flatMap T.esc = l := by
  induction l with
  | nil => rfl
  | cons x l ih =>
    unfold cnt4 at h ih
    rw [List.countP_cons] at h
    cases hx : spec4 x
    · rw [List.flatMap_cons, ih (by omega)]
      have := esc_len x
      rw [hx] at this
      have e : T.esc x = [x] := by
        unfold spec4 at hx
        simp only [Bool.or_eq_false_iff, beq_eq_false_iff_ne] at hx
        unfold T.esc
        simp [hx]
      rw [e]; rfl
    · rw [hx] at h; simp at h
/-- a buffer that is filled from the front -/
def BufAt (w : World) (b : Nat) (p : List UInt8) (N : Nat) : Prop :=
  ∃ C : Array Value, C.size = N ∧ Blk w b C 5 ∧ ∀ k (h : k < p.length), C[k]? = some (.int .u8 ((p[k]'h).toNat : Nat))
theorem BufAt.start (w : World) (b N : Nat) (h : b = w.heap.size) : BufAt (w.alloc (.cells (Array.replicate N (.int .u8 0)) 5)) b [] N :=
  ⟨_, by simp, Blk.new _ _ _ _ h, fun k hk => absurd hk (by simp)⟩
theorem BufAt.drewN {w : World} {b : Nat} {p : List UInt8} {N : Nat} (h : BufAt w b p N) (q : Nat) : BufAt (w.drewN q) b p N := h
theorem BufAt.cell {w : World} {b : Nat} {p : List UInt8} {N : Nat} (h : BufAt w b p N) (k : Nat) (hk : k < N) : ∃ v, w.cell? ⟨b, k, none⟩ = some v := by
  obtain ⟨C, hs, hb, _⟩ := h
  exact ⟨C[k]'(by omega), by rw [hb.cell k, Array.getElem?_eq_getElem]⟩
theorem BufAt.free {w : World} {b : Nat} {p : List UInt8} {N : Nat} (h : BufAt w b p N) (k : Nat) : w.frozen? ⟨b, k, none⟩ = false := by
  obtain ⟨C, hs, hb, _⟩ := h
  exact hb.free k
theorem BufAt.lt {w : World} {b : Nat} {p : List UInt8} {N : Nat} (h : BufAt w b p N) : b < w.heap.size := by
  obtain ⟨C, hs, hb, _⟩ := h
  exact hb.lt
theorem BufAt.push {w : World} {b : Nat} {p : List UInt8} {N : Nat} (h : BufAt w b p N) (x : UInt8) (j : Nat) (hj : j = p.length) (hp : p.length < N) : BufAt (w.setCell ⟨b, j, none⟩ (.int .u8 x.toNat)) b (p ++ [x]) N := by
  subst hj
  obtain ⟨C, hs, hb, hc⟩ := h
  refine ⟨_, by rw [Array.size_setIfInBounds]; exact hs, hb.set _ _, fun k hk => ?_⟩
  by_cases hkp : k < p.length
  · rw [Array.getElem?_setIfInBounds_ne (by omega), hc k hkp, List.getElem_append_left hkp]
  · have : k = p.length := by rw [List.length_append] at hk; simp at hk; omega
    subst this
    rw [Array.getElem?_setIfInBounds_self_of_lt (by omega)]
    congr 2
    simp
theorem strNums_map (l : List UInt8) : strOfNums (l.map fun b => (b.toNat : Int)) = ⟨l.toArray⟩ := by
  unfold strOfNums
  rw [List.map_map]
  congr 2
  exact (List.map_congr_left (fun x _ => by simp)).trans (List.map_id l)
theorem BufAt.str {w : World} {b : Nat} {p : List UInt8} {N : Nat} (h : BufAt w b p N) (hp : p.length = N) (cap : Nat) (dst : TypeId) (hd : Tryz.prog.underlying dst = some .string) : (convert 38 dst (.slice (some ⟨b, 0, none⟩) N cap)).run Tryz.prog w = .ok (.string ⟨p.toArray⟩) w := by
  obtain ⟨C, hs, hb, hc⟩ := h
  have hx : (p.map fun b => (b.toNat : Int)).length = N := by rw [List.length_map]; exact hp
  have hcl : ∀ i, i < N → w.cell? ⟨b, 0 + i, none⟩ = some (.int .u8 ((p.map fun b => (b.toNat : Int)).getD i 0)) := by
    intro i hi
    rw [Nat.zero_add, hb.cell i, hc i (by omega), List.getD_eq_getElem?_getD, List.getElem?_map, List.getElem?_eq_getElem (by omega)]
    rfl
  have := run_convert_bytes_arg (P := Tryz.prog) w 38 5 Tryz.underlying38 Tryz.underlying5 b 0 N cap _ hx hcl dst hd
  rw [strNums_map] at this
  exact this
theorem infoU8r : (Tryz.prog.info? 5).map (fun i => (i.zero, i.size, i.bytes)) = some (some (.int .u8 0), 1, 1) := by kernel_rfl
theorem make_bytes (n : Nat) (h : n ≤ 4194304) (w : World) : Sem.run Tryz.prog (Instr.makeSlice 38 (.int .i64 n) (.int .i64 n)) w = .ok (.slice (some ⟨w.heap.size, 0, none⟩) n n) (w.alloc (.cells (Array.replicate n (.int .u8 0)) 5)) := by
  obtain ⟨i0, hi0, hz0, hz1, hz2⟩ := info_parts infoU8r
  have := run_make (P := Tryz.prog) w 38 5 i0 _ Tryz.underlying38 hi0 hz0 .i64 .i64 n n (by omega) (Int.le_refl _) (by rw [hz2]; omega) (by omega)
  rw [this, hz1]
  have e : madeCells (Value.int .u8 0).cells ((n : Int).toNat * 1) = Array.replicate n (.int .u8 0) := by
    apply Array.ext
    · simp [madeCells]
    · intro i h1 h2
      simp [madeCells, Value.cells, Nat.mod_one]
  rw [e]
  simp
theorem size_u8 : (Tryz.prog.info? 5).map (·.size) = some 1 := by kernel_rfl

theorem BufAt.copy2 {w : World} {b : Nat} {p : List UInt8} {N : Nat} (h : BufAt w b p N) (j : Nat) (hj : p.length = j) (hN : j + 2 ≤ N) (l c G K : Nat) (hl : 2 ≤ l) (y z : UInt8)
    (hy : w.cell? ⟨G, 0, none⟩ = some (.int .u8 y.toNat)) (hz : w.cell? ⟨G, 1, none⟩ = some (.int .u8 z.toNat)) (ty : TypeId) :
    ∃ w', (Builtin.copy_ #[38, 38] ty #[.slice (some ⟨b, j, none⟩) l c, .slice (some ⟨G, 0, none⟩) 2 K]).run Tryz.prog w = .ok (.int .i64 2) w' ∧ BufAt w' b (p ++ [y, z]) N ∧ ∀ B w0, B ≤ b → Below B w0 w → Below B w0 w' := by
  have hr := run_copy_cells (P := Tryz.prog) w 38 38 ty 5 b j l c ⟨G, 0, none⟩ 2 K [.int .u8 y.toNat, .int .u8 z.toNat] Tryz.underlying38 size_u8
    (by show 2 = Nat.min 2 l; exact (Nat.min_eq_left hl).symm)
    (fun k v hv => by
      match k, hv with
      | 0, hv => obtain rfl : _ = v := by simpa using hv
                 exact hy
      | 1, hv => obtain rfl : _ = v := by simpa using hv
                 exact hz
      | k + 2, hv => simp at hv)
    (fun k hk => by obtain ⟨v, hv⟩ := h.cell (j + k) (by simp at hk; omega); rw [hv]; rfl)
    (fun k hk => h.free (j + k))
    (fun v hv => by simp at hv; rcases hv with rfl | rfl <;> rfl)
  refine ⟨_, hr, ?_, fun B w0 hB hb => ?_⟩
  · have h1 := (h.push y j hj.symm (by omega)).push z (j + 1) (by simp; omega) (by simp; omega)
    rw [List.append_assoc] at h1
    exact h1
  · exact (hb.setCell (by exact hB) _).setCell (by exact hB) _
theorem step_copy_buf {ops : Array Oper} {o : Oper} {a : Act} {w : World} {K : Act → World → Prop} {Q : Exit → Act → World → Prop} {E : Prop} (hgd : o.guard = none) (d s : Operand)
    (ho : o.op = .call { callee := .builtin .copy, args := #[d, s], argTypes := #[38, 38] }) (b N : Nat) (p : List UInt8) (h : BufAt w b p N) (j : Nat) (hj : p.length = j) (hN : j + 2 ≤ N) (l c G K0 : Nat) (hl : 2 ≤ l) (y z : UInt8)
    (hy : w.cell? ⟨G, 0, none⟩ = some (.int .u8 y.toNat)) (hz : w.cell? ⟨G, 1, none⟩ = some (.int .u8 z.toNat))
    (hd : a.eval d = .slice (some ⟨b, j, none⟩) l c) (hs : a.eval s = .slice (some ⟨G, 0, none⟩) 2 K0) 
    (hK : ∀ w', BufAt w' b (p ++ [y, z]) N → (∀ B w0, B ≤ b → Below B w0 w → Below B w0 w') → K (a.put o.dst (.int .i64 2)) w') :
    if Region.wanted o (yielded ops a.tmps) = true then Oper.wp Tryz.prog o a w K Q else E := by
  obtain ⟨w', hr, hb', hbel⟩ := h.copy2 j hj hN l c G K0 hl y z hy hz o.type
  have hw : Region.wanted o (yielded ops a.tmps) = true := by simp [Region.wanted, hgd]
  rw [if_pos hw]
  unfold Oper.wp
  simp [execOp, ho, resolve, invoke, builtin, hd, hs, hr, Result.andThen]
  exact hK _ hb' hbel

set_option maxRecDepth 50000 in
set_option maxHeartbeats 4000000 in
theorem brep_short (b B : Nat) (s : ByteArray) (w : World) (h : RepAt w B b) (hs : s.size < 32) :
    Calls Tryz.prog 177 #[.pointer (some ⟨b, 0, none⟩), .string s] w fun e w' => e = .returned (.string ⟨(s.data.toList.flatMap T.esc).toArray⟩) ∧ Below w.heap.size w w' := by
  have HR := Lib.hid h
  obtain ⟨cs, G0, K0, G1, K1, G2, K2, G3, K3, tv, hB, hbl, hc, hl, hown, -, -, -, -, -⟩ := h
  obtain ⟨ta, tc, rfl⟩ := own_slice hown
  have dl : w.cell? ⟨b, 256, none⟩ = some (.slice ta 4 tc) := by rw [hbl.cell 256]; exact hl
  have hbw : b < w.heap.size := hbl.lt
  obtain ⟨m, hm⟩ : ∃ m, s.size = m := ⟨_, rfl⟩
  have hml : s.data.toList.length = m := by rw [Array.length_toList]; exact hm
  have h32 : decide (32 ≤ m) = false := decide_eq_false (by omega)
  rw [hm] at hs
  have HM := Lib.hid hm
  have HML := Lib.hid hml
  have hq := fun (W : World) => Lib.run_eql_slice_nil_nil (P := Tryz.prog) W 0 0 Tryz.underlying38
  have HQ := Lib.hid hq
  clear hq
  clear hbl hc hown hml hl
  go_enter Tryz.func177, Tryz.ntmps177
  go_wp2
  clear hm
  go_loopw [10, 5, 6] (fun u v x wr => ∃ i : Nat, i ≤ m ∧ u = .int .i64 i ∧ v = .int .i64 ((m + cnt4 (s.data.toList.take i) : Nat) : Int) ∧ x = .bool (decide (0 < cnt4 (s.data.toList.take i))) ∧ ∃ q, wr = w.drewN q) (fun u _ _ _ => m - (intOf u).toNat)
  case atStart => exact ⟨0, Nat.zero_le _, rfl, by simp [cnt4], by simp [cnt4], 0, rfl⟩
  case round =>
    obtain ⟨i, hi, rfl, rfl, rfl, q, rfl⟩ := hrel
    by_cases hlt : i < m
    · have hi2 : (i : Int) < (m : Int) := by omega
      have hil : i < s.data.toList.length := by rw [HML.out]; exact hlt
      obtain ⟨n, hn⟩ : ∃ n, cnt4 (s.data.toList.take i) = n := ⟨_, rfl⟩
      have hnm : n ≤ m := by rw [← hn]; unfold cnt4; exact Nat.le_trans List.countP_le_length (by rw [List.length_take]; omega)
      obtain ⟨x, hx⟩ : ∃ x, s.data.toList[i]'hil = x := ⟨_, rfl⟩
      have hct := cnt_take s.data.toList i hil
      rw [hn, hx] at hct
      have hspec := repl_at HR.out x
      rw [hn]
      have HN := Lib.hid hn
      have HX := Lib.hid hx
      have HCT := Lib.hid hct
      clear hn hx hct
      have hsi : ∀ h, (s[i]'h).toNat = x.toNat := by
        intro h
        rw [← HX.out, Array.getElem_toList]; rfl
      have hms : (i : Int) < (s.size : Int) := by rw [HM.out]; exact hi2
      have hx256 : (x.toNat : Int) < 256 := by have := x.toNat_lt; omega
      rcases hspec with ⟨hsp, G, K, y, z, hce, -, -, -, -⟩ | ⟨hsp, hce, -⟩
      · rw [hsp] at HCT
        go_wp2
        have hct2 := HCT.out
        rw [if_pos rfl] at hct2
        refine ⟨⟨i + 1, by omega, by rw [Int.natCast_add]; rfl, ?_, ?_, q, rfl⟩, by simp [intOf]; omega⟩
        · rw [hct2]; rfl
        · rw [hct2, decide_eq_true (by omega)]
      · rw [hsp] at HCT
        go_wp2
        have hct2 := HCT.out
        rw [if_neg (by decide), Nat.add_zero] at hct2
        refine ⟨⟨i + 1, by omega, by rw [Int.natCast_add]; rfl, ?_, ?_, q, rfl⟩, by simp [intOf]; omega⟩
        · rw [hct2]; rfl
        · rw [hct2]; rfl
    · have him : i = m := by omega
      subst him
      have hms : ¬ (i : Int) < (s.size : Int) := by rw [HM.out]; omega
      rw [List.take_of_length_le (by rw [HML.out]; omega)]
      obtain ⟨n, hn⟩ : ∃ n, cnt4 s.data.toList = n := ⟨_, rfl⟩
      have hnm : n ≤ i := by rw [← hn, ← HML.out]; exact List.countP_le_length
      rw [hn]
      have HN := Lib.hid hn
      clear hn
      obtain ⟨D, hD⟩ : ∃ D, s.data.toList.flatMap T.esc = D := ⟨_, rfl⟩
      have hDl : D.length = i + n := by rw [← hD, escs_len, HML.out, HN.out]
      have HD := Lib.hid hD
      have HDL := Lib.hid hDl
      clear hD hDl
      by_cases h0 : 0 < n
      · rw [decide_eq_true h0]
        have hmk := make_bytes (i + n) (by omega) (w.drewN q)
        rw [Int.natCast_add] at hmk
        obtain ⟨N, hN⟩ : ∃ N, i + n = N := ⟨_, rfl⟩
        rw [hN] at hmk
        have HDN := Lib.hid (HDL.out.trans hN)
        have hN128 : N ≤ 128 := by omega
        clear hN
        obtain ⟨W, hW⟩ : ∃ W, (w.drewN q).alloc (.cells (Array.replicate N (.int .u8 0)) 5) = W := ⟨_, rfl⟩
        have hbuf : BufAt W w.heap.size [] N := by rw [← hW]; exact BufAt.start _ _ _ rfl
        have hbel : Below w.heap.size w W := by rw [← hW]; exact (Below.drewN (Below.refl _ _) _).alloc (Nat.le_refl _) _
        rw [hW] at hmk
        have HBUF := Lib.hid hbuf
        have HBEL := Lib.hid hbel
        clear hW hbuf hbel
        go_wp2
        go_loopw [14, 13] (fun u v wr => ∃ k : Nat, k ≤ i ∧ u = .int .i64 k ∧ v = .int .i64 (((s.data.toList.take k).flatMap T.esc).length : Nat) ∧ BufAt wr w.heap.size ((s.data.toList.take k).flatMap T.esc) N ∧ Below w.heap.size w wr) (fun u _ _ => i - (intOf u).toNat)
        case atStart => exact ⟨0, Nat.zero_le _, rfl, by simp, HBUF.out, HBEL.out⟩
        case round =>
          obtain ⟨k, hk, rfl, rfl, hbf, hbe⟩ := hrel
          by_cases hkl : k < i
          · have hi2 : (k : Int) < (i : Int) := by omega
            have hil : k < s.data.toList.length := by rw [HML.out]; exact hkl
            obtain ⟨x, hx⟩ : ∃ x, s.data.toList[k]'hil = x := ⟨_, rfl⟩
            have htk := take_snoc' s.data.toList k hil
            rw [hx] at htk
            have hfm : (s.data.toList.take (k + 1)).flatMap T.esc = (s.data.toList.take k).flatMap T.esc ++ T.esc x := by rw [htk, List.flatMap_append]; simp
            have hle : ((s.data.toList.take (k + 1)).flatMap T.esc).length ≤ N := by
              rw [← HDN.out, ← HD.out]
              conv => rhs; rw [← List.take_append_drop (k + 1) s.data.toList, List.flatMap_append, List.length_append]
              omega
            obtain ⟨p, hp⟩ : ∃ p, (s.data.toList.take k).flatMap T.esc = p := ⟨_, rfl⟩
            rw [hp] at hfm hbf ⊢
            have hspec := repl_at HR.out x
            obtain ⟨j, hj⟩ : ∃ j, p.length = j := ⟨_, rfl⟩
            rw [hj]
            have HX := Lib.hid hx
            have HFM := Lib.hid hfm
            have HP := Lib.hid hp
            have HJ := Lib.hid hj
            have HLE := Lib.hid hle
            clear hx hfm hp hj hle htk
            have hsi : ∀ h, (s[k]'h).toNat = x.toNat := by
              intro h
              rw [← HX.out, Array.getElem_toList]; rfl
            have hms2 : (k : Int) < (s.size : Int) := by rw [HM.out]; exact hi2
            have hx256 : (x.toNat : Int) < 256 := by have := x.toNat_lt; omega
            rcases hspec with ⟨hsp, G, K, y, z, hce, hG, hy, hz, hesc⟩ | ⟨hsp, hce, hesc⟩
            · have hce2 := (hbe.cell (p := ⟨b, x.toNat, none⟩) hbw).trans hce
              go_wp2
              have hG2 := hbe.cell (p := ⟨G, 0, none⟩) hG
              have hG1 := hbe.cell (p := ⟨G, 1, none⟩) hG
              have hj2 : j + 2 ≤ N := by
                have := HLE.out
                rw [HFM.out, List.length_append, HJ.out, hesc] at this
                exact this
              have hjN : (j : Int) ≤ (N : Int) := by omega
              have hjN2 : ((N : Int) - (j : Int)).toNat = N - j := by omega
              go_region_law (refine step_copy_buf rfl (.tmp 105) (.tmp 111) rfl w.heap.size N p (by exact hbf) j HJ.out hj2 (N - j) (N - j) G K (by omega) y z (by exact (hG2.trans hy)) (by exact (hG1.trans hz)) (by simp [Act.eval]; omega) (by simp [Act.eval]) ?_; rintro w4 hb4 he4)
              all_goals
                go_wp2
                refine ⟨⟨k + 1, by omega, by rw [Int.natCast_add]; rfl, ?_, ?_, he4 _ _ (Nat.le_refl _) (Below.drew hbe)⟩, by simp [intOf]; omega⟩
                · rw [HFM.out, List.length_append, HJ.out, hesc]; rfl
                · rw [HFM.out, hesc]; exact hb4
            · have hce2 := (hbe.cell (p := ⟨b, x.toNat, none⟩) hbw).trans hce
              have hj2 : j + 1 ≤ N := by
                have := HLE.out
                rw [HFM.out, List.length_append, HJ.out, hesc] at this
                exact this
              have hjN : (j : Int) < (N : Int) := by omega
              obtain ⟨old, hold⟩ := hbf.cell j (by omega)
              have hfr := hbf.free j
              go_wp2
              refine ⟨⟨k + 1, by omega, by rw [Int.natCast_add]; rfl, ?_, ?_, hbe.setCell (Nat.le_refl _) _⟩, by simp [intOf]; omega⟩
              · rw [HFM.out, List.length_append, HJ.out, hesc]; rfl
              · rw [HFM.out, hesc]; exact hbf.push x j HJ.out.symm (by rw [HJ.out]; omega)
          · have hki : k = i := by omega
            subst hki
            have hms2 : ¬ (k : Int) < (s.size : Int) := by rw [HM.out]; omega
            rw [List.take_of_length_le (by rw [HML.out]; omega), HD.out] at hbf ⊢
            rw [HDN.out]
            have hst := hbf.str HDN.out N 9 Tryz.underlying9
            go_wp2
            go_ret
            exact ⟨by rw [HD.out]; rfl, hbe⟩
      · have hn0 : n = 0 := by omega
        rw [decide_eq_false h0]
        go_wp2
        go_ret
        refine ⟨?_, Below.drewN (Below.refl _ _) _⟩
        rw [esc_id _ (by rw [HN.out]; exact hn0)]
        rfl
end Go.Proofs.YtaojgcioljcpmaaGreatDoor
