/- Contract: (*strings.Replacer).build at the four pairs of lex.one. Written by gen_rep.py. -/
import Derived.Test.YtaojgcioljcpmaaGreatDoorRepA
import Derived.Lib.BufferMore
import Derived.Lib.ConvBytes
namespace Go.Proofs.YtaojgcioljcpmaaGreatDoor
open Go.RowKit

theorem infoStr : (Tryz.prog.info? 9).map (fun i => (i.zero, i.size, i.bytes)) = some (some (.string ByteArray.empty), 1, 16) := by kernel_rfl
theorem own_ne {w : World} {base b : Nat} {e t : TypeId} {size : Nat} {v : Value} {n : Nat} {xs : List Value} {cs : Array Value} {fz : Nat × Nat} (h : w.ownsRow base e size v n xs) (hb : w.heap[b]? = some (.cells cs t fz)) (ht : t ≠ e) : v.ownBlock ≠ some b := by
  rcases h.2 with ⟨rfl, _⟩ | ⟨g, cap, cur, rfl, _, hg, _⟩
  · simp [Value.ownBlock]
  · intro hh
    simp only [Value.ownBlock, Option.some.injEq] at hh
    subst hh
    rw [hb] at hg
    simp only [Option.some.injEq, Obj.cells.injEq] at hg
    exact ht hg.2.1

/-- the four texts that are replaced, and what stands for them -/
def pairs : List (List UInt8) := [[92], [92, 92], [34], [92, 34], [10], [92, 110], [9], [92, 116]]
/-- a built replacer in memory -/
def RepAt (w : World) (B b : Nat) : Prop :=
  ∃ (cs : Array Value) (G0 K0 G1 K1 G2 K2 G3 K3 : Nat) (tv : Value), B ≤ b ∧ Blk w b cs 178 ∧ (∀ v, v < 256 → cs[v]? = some (if v = 92 then .slice (some ⟨G3, 0, none⟩) 2 K3 else if v = 34 then .slice (some ⟨G2, 0, none⟩) 2 K2 else if v = 10 then .slice (some ⟨G1, 0, none⟩) 2 K1 else if v = 9 then .slice (some ⟨G0, 0, none⟩) 2 K0 else .slice none 0 0)) ∧ cs[256]? = some tv ∧
    w.ownsRow B 9 1 tv 4 [.string ⟨#[9]⟩, .string ⟨#[10]⟩, .string ⟨#[34]⟩, .string ⟨#[92]⟩] ∧
    (G0 < w.heap.size ∧ G1 < w.heap.size ∧ G2 < w.heap.size ∧ G3 < w.heap.size) ∧
    (w.cell? ⟨G0, 0, none⟩ = some (.int .u8 92) ∧ w.cell? ⟨G0, 1, none⟩ = some (.int .u8 116)) ∧
    (w.cell? ⟨G1, 0, none⟩ = some (.int .u8 92) ∧ w.cell? ⟨G1, 1, none⟩ = some (.int .u8 110)) ∧
    (w.cell? ⟨G2, 0, none⟩ = some (.int .u8 92) ∧ w.cell? ⟨G2, 1, none⟩ = some (.int .u8 34)) ∧
    (w.cell? ⟨G3, 0, none⟩ = some (.int .u8 92) ∧ w.cell? ⟨G3, 1, none⟩ = some (.int .u8 92))

set_option maxHeartbeats 8000000 in
theorem build_any (rb A C : Nat) (w : World) (h4 : w.cell? ⟨rb, 4, none⟩ = some (.slice (some ⟨A, 0, none⟩) 8 C)) (hs : StrAt w A pairs) :
    Calls Tryz.prog 93 #[.pointer (some ⟨rb, 0, none⟩)] w fun e w' => ∃ b, e = .returned (.iface 179 (.pointer (some ⟨b, 0, none⟩))) ∧ RepAt w' w.heap.size b ∧ Below w.heap.size w w' := by
  have hA := hs.1
  have c0 := hs.2 0 _ rfl
  have c1 := hs.2 1 _ rfl
  have c2 := hs.2 2 _ rfl
  have c3 := hs.2 3 _ rfl
  have c4 := hs.2 4 _ rfl
  have c5 := hs.2 5 _ rfl
  have c6 := hs.2 6 _ rfl
  have c7 := hs.2 7 _ rfl
  clear hs
  have hmk : ∀ w, (Instr.makeSlice 36 (.int .i64 0) (.int .i64 4)).run Tryz.prog w = .ok (.slice (some ⟨w.heap.size, 0, none⟩) 0 4) (w.alloc (.cells #[.string ⟨#[]⟩, .string ⟨#[]⟩, .string ⟨#[]⟩, .string ⟨#[]⟩] 9)) := fun _ => by kernel_rfl
  have hst := run_storeRep (w.alloc (.cells #[.string ⟨#[]⟩, .string ⟨#[]⟩, .string ⟨#[]⟩, .string ⟨#[]⟩] 9)) (.slice (some ⟨w.heap.size, 0, none⟩) 0 4) rfl (w.heap.size + 1) (by simp)
  obtain ⟨is0, his, hs0, hs1, hs2⟩ := info_parts infoStr
  go_enter Tryz.func93, Tryz.ntmps93
  go_wp2
  refine wp_loop_rounds 5 ?_
  rw [rounds_succ]
  go_wp2
  rw [rounds_succ]
  go_wp2
  rw [rounds_succ]
  go_wp2
  rw [rounds_succ]
  go_wp2
  rw [rounds_succ]
  go_wp2
  have hq := fun W => Lib.run_eql_slice_nil_nil (P := Tryz.prog) W 0 0 Tryz.underlying38
  have hcs := fun (W : World) (s : ByteArray) => Lib.run_convert_string_bytes (P := Tryz.prog) W 9 38 5 s Tryz.underlying9 Tryz.underlying38 Tryz.underlying5
  have HCS := Lib.hid hcs
  clear hcs
  have hx9 : ∀ h, ((⟨#[9]⟩ : ByteArray)[0]'h).toNat = 9 := fun _ => rfl
  have hx10 : ∀ h, ((⟨#[10]⟩ : ByteArray)[0]'h).toNat = 10 := fun _ => rfl
  have hx34 : ∀ h, ((⟨#[34]⟩ : ByteArray)[0]'h).toNat = 34 := fun _ => rfl
  have hx92 : ∀ h, ((⟨#[92]⟩ : ByteArray)[0]'h).toNat = 92 := fun _ => rfl
  obtain ⟨V0, hV0⟩ : ∃ V0, (w.alloc (.cells #[.string ⟨#[]⟩, .string ⟨#[]⟩, .string ⟨#[]⟩, .string ⟨#[]⟩] 9)).alloc (.cells (Tryz.zeroCells178.toList.set 256 (.slice (some ⟨w.heap.size, 0, none⟩) 0 4)).toArray 178) = V0 := ⟨_, rfl⟩
  rw [hV0]
  have hbl0 : Blk V0 (w.heap.size + 1) (Tryz.zeroCells178.toList.set 256 (.slice (some ⟨w.heap.size, 0, none⟩) 0 4)).toArray 178 := by rw [← hV0]; exact Blk.new _ _ _ _ (by simp)
  have hbe0 : Below w.heap.size w V0 := by rw [← hV0]; exact ((Below.refl _ _).alloc (Nat.le_refl _) _).alloc (by simp) _
  have hown0 : V0.ownsRow w.heap.size 9 1 (.slice (some ⟨w.heap.size, 0, none⟩) 0 4) 0 [] := by
    rw [← hV0]
    refine World.ownsRow.alloc ?_ _
    exact ⟨rfl, .inr ⟨w.heap.size, 4, _, rfl, Nat.le_refl _, heap_alloc_new w _, by omega, by unfold maxLen; omega, rfl, rfl⟩⟩
  have hsz0 : w.heap.size + 1 < V0.heap.size := by rw [← hV0]; simp
  obtain ⟨C0, hC0⟩ : ∃ C0, (Tryz.zeroCells178.toList.set 256 (.slice (some ⟨w.heap.size, 0, none⟩) 0 4)).toArray = C0 := ⟨_, rfl⟩
  have hc0 : ∀ v, v < 256 → C0[v]? = some (.slice none 0 0) := by
    intro v hv; rw [← hC0]; simpa using repZ_at (.slice (some ⟨w.heap.size, 0, none⟩) 0 4) v hv
  have hl0 : C0[256]? = some (.slice (some ⟨w.heap.size, 0, none⟩) 0 4) := by rw [← hC0]; simp
  rw [hC0] at hbl0
  have HBL0 := Lib.hid hbl0
  have HBE0 := Lib.hid hbe0
  have HOWN0 := Lib.hid hown0
  have HC0 := Lib.hid hc0
  have HL0 := Lib.hid hl0
  have HROW0 := Lib.hid (trivial : True)
  clear hbl0 hbe0 hown0 hc0 hl0 hV0 hC0 hst hmk
  refine wp_loop_rounds 5 ?_
  -- round 0
  have d0 : V0.cell? ⟨w.heap.size + 1, 9, none⟩ = some (.slice none 0 0) := by rw [HBL0.out.cell 9, HC0.out 9 (by omega)]
  have dl0 : V0.cell? ⟨w.heap.size + 1, 256, none⟩ = some (.slice (some ⟨w.heap.size, 0, none⟩) 0 4) := by rw [HBL0.out.cell 256]; exact HL0.out
  have ea0 := (HBE0.out.cell (p := ⟨A, 6, none⟩) hA).trans c6
  have eb0 := (HBE0.out.cell (p := ⟨A, 7, none⟩) hA).trans c7
  have hA0 : A < V0.heap.size := by omega
  have hcv0 := run_convert_bytes_arg (P := Tryz.prog) (V0.alloc (.cells #[.int .u8 9] 5)) 38 5 Tryz.underlying38 Tryz.underlying5 V0.heap.size 0 1 1 [9] rfl
    (fun i hi => by obtain rfl : i = 0 := by omega
                    exact (Blk.new V0 _ _ _ rfl).cell 0) 9 Tryz.underlying9
  rw [show strOfNums [9] = ⟨#[9]⟩ from rfl] at hcv0
  rw [rounds_succ]
  go_wp2_with (at_builtin; refine wpList_append_own _ rfl _ _ 36 rfl w.heap.size 9 is0 (.string ByteArray.empty) 1 16 Tryz.underlying36 his hs0 hs1 hs2 rfl (by decide) _ _ _ rfl (World.ownsRow.alloc (World.ownsRow.alloc HOWN0.out _) _) ⟨V0.heap.size + 1, 0, none⟩ 1 1 [.string ⟨#[9]⟩] rfl rfl ?c1 ?c2 ?c3 ?c4 ?c5 ?_)
  case c1 => exact cells_new _ _ [.string ⟨#[9]⟩] _ (by simp)
  case c2 => intro u hu; simp at hu; rcases hu with rfl; rfl
  case c3 => unfold maxLen; omega
  case c4 => omega
  case c5 => simp; omega
  intro x0 y0 hown0' hgrow0 _
  obtain ⟨ta1, tc1, hv0⟩ := own_slice hown0'
  replace hv0 : x0 = .slice ta1 1 tc1 := hv0
  subst hv0
  have hne0 : some (w.heap.size + 1) ≠ (Value.slice (some ⟨w.heap.size, 0, none⟩) 0 4).ownBlock := fun h => own_ne HOWN0.out HBL0.out (by decide) h.symm
  have hby0 : Below w.heap.size w y0 := ((HBE0.out.alloc (by omega) _).alloc (by first | omega | (simp; done) | (simp; omega)) _).grown hgrow0 (by first | omega | (simp; done) | (simp; omega)) (fun k hk => (HOWN0.out.lt k hk).1)
  have hly0 : y0.heap[w.heap.size + 1]? = V0.heap[w.heap.size + 1]? := by
    rw [hgrow0.block _ (by first | omega | (simp; done) | (simp; omega)) hne0, Below.heap_alloc _ _ _ (by first | omega | (simp; done) | (simp; omega)), Below.heap_alloc _ _ _ (by omega)]
  have hbly0 : Blk y0 (w.heap.size + 1) C0 178 := Blk.of HBL0.out hly0
  have hsy0 : w.heap.size + 1 < y0.heap.size := hbly0.lt
  have dy0 : y0.cell? ⟨w.heap.size + 1, 256, none⟩ = some (.slice (some ⟨w.heap.size, 0, none⟩) 0 4) := by rw [hbly0.cell 256]; exact HL0.out
  have fy0 := hbly0.free 256
  obtain ⟨Z0, hZ0⟩ : ∃ Z, Lib.bytesWorld (y0.setCell ⟨w.heap.size + 1, 256, none⟩ (.slice ta1 1 tc1)) 5 ⟨#[92, 116]⟩ = Z := ⟨_, rfl⟩
  have hblz0 : Blk Z0 (w.heap.size + 1) (C0.setIfInBounds 256 (.slice ta1 1 tc1)) 178 := by
    rw [← hZ0]; exact Blk.of (hbly0.set 256 _) (Lib.bytesWorld_at_old _ _ _ _ (by first | omega | (simp; done) | (simp; omega)))
  have hbz0 : Below y0.heap.size (y0.setCell ⟨w.heap.size + 1, 256, none⟩ (.slice ta1 1 tc1)) Z0 := by
    rw [← hZ0]; have := Lib.bytesWorld_below (y0.setCell ⟨w.heap.size + 1, 256, none⟩ (.slice ta1 1 tc1)) 5 ⟨#[92, 116]⟩; simpa using this
  have hzs0 : Z0.heap.size = y0.heap.size + 1 := by rw [← hZ0, Lib.bytesWorld_size]; simp
  have dz0 : Z0.cell? ⟨w.heap.size + 1, 9, none⟩ = some (.slice none 0 0) := by
    rw [hblz0.cell 9, Array.getElem?_setIfInBounds_ne (by omega), HC0.out 9 (by omega)]
  have fz0 := hblz0.free 9
  have hD0 : Z0.heap[y0.heap.size]? = some (.cells (Lib.bytesCells (y0.setCell ⟨w.heap.size + 1, 256, none⟩ (.slice ta1 1 tc1)) 5 ⟨#[92, 116]⟩) 5 ((Lib.bytesCells (y0.setCell ⟨w.heap.size + 1, 256, none⟩ (.slice ta1 1 tc1)) 5 ⟨#[92, 116]⟩).size, (Lib.bytesCells (y0.setCell ⟨w.heap.size + 1, 256, none⟩ (.slice ta1 1 tc1)) 5 ⟨#[92, 116]⟩).size + 1)) := by
    rw [← hZ0]; have := Lib.bytesWorld_at_new (y0.setCell ⟨w.heap.size + 1, 256, none⟩ (.slice ta1 1 tc1)) 5 ⟨#[92, 116]⟩; simpa using this
  obtain ⟨D0, hDD0⟩ : ∃ D, Lib.bytesCells (y0.setCell ⟨w.heap.size + 1, 256, none⟩ (.slice ta1 1 tc1)) 5 ⟨#[92, 116]⟩ = D := ⟨_, rfl⟩
  rw [hDD0] at hD0
  obtain ⟨F0, hF0⟩ : ∃ F, (D0.size, D0.size + 1) = F := ⟨_, rfl⟩
  rw [hF0] at hD0
  have rz0 : Z0.cell? ⟨y0.heap.size, 0, none⟩ = some (.int .u8 92) ∧ Z0.cell? ⟨y0.heap.size, 1, none⟩ = some (.int .u8 116) := by
    rw [← hZ0]
    have h0 := Lib.bytesWorld_cell (y0.setCell ⟨w.heap.size + 1, 256, none⟩ (.slice ta1 1 tc1)) 5 ⟨#[92, 116]⟩ 0 (by decide)
    have h1 := Lib.bytesWorld_cell (y0.setCell ⟨w.heap.size + 1, 256, none⟩ (.slice ta1 1 tc1)) 5 ⟨#[92, 116]⟩ 1 (by decide)
    simp only [World.size_setCell] at h0 h1
    exact ⟨h0, h1⟩
  obtain ⟨K0, hK0⟩ : ∃ K, grownCap (y0.setCell ⟨w.heap.size + 1, 256, none⟩ (.slice ta1 1 tc1)) (⟨#[92, 116]⟩ : ByteArray).size 0 5 = K := ⟨_, rfl⟩
  have hcz0 := HCS.out (y0.setCell ⟨w.heap.size + 1, 256, none⟩ (.slice ta1 1 tc1)) ⟨#[92, 116]⟩
  rw [hZ0, hK0] at hcz0
  simp only [World.size_setCell, show (⟨#[92, 116]⟩ : ByteArray).size = 2 from rfl] at hcz0
  have HBZ := Lib.hid hbz0
  have HD0 := Lib.hid hD0
  have HBLZ := Lib.hid hblz0
  have HRZ := Lib.hid rz0
  have HBY := Lib.hid hby0
  have HOY := Lib.hid hown0'
  have HGR := Lib.hid hgrow0
  have HYB := Lib.hid hbly0
  clear hD0 hDD0 hF0 hbz0 hblz0 rz0 hby0 hown0' hbly0 hly0 hZ0 hK0 hgrow0 hne0
  go_wp2
  obtain ⟨V1, hV1⟩ : ∃ V, Z0.setCell ⟨w.heap.size + 1, 9, none⟩ (.slice (some ⟨y0.heap.size, 0, none⟩) 2 K0) = V := ⟨_, rfl⟩
  rw [hV1]
  have hkb0 : ∀ g, g < y0.heap.size → g ≠ w.heap.size + 1 → V1.heap[g]? = y0.heap[g]? := by
    intro g hg hne
    rw [← hV1, heap_setCell_other _ _ _ _ hne, HBZ.out.block g hg, heap_setCell_other _ _ _ _ hne]
  obtain ⟨C1, hC1⟩ : ∃ C, (C0.setIfInBounds 256 (.slice ta1 1 tc1)).setIfInBounds 9 (.slice (some ⟨y0.heap.size, 0, none⟩) 2 K0) = C := ⟨_, rfl⟩
  have HBL1 := Lib.hid (show Blk V1 (w.heap.size + 1) C1 178 by rw [← hV1, ← hC1]; exact HBLZ.out.set 9 _)
  have hcn0 : 256 < C0.size := (Array.getElem?_eq_some_iff.1 HL0.out).1
  have HC1 := Lib.hid (show ∀ v, v < 256 → C1[v]? = some (if v = 9 then .slice (some ⟨y0.heap.size, 0, none⟩) 2 K0 else .slice none 0 0) by
    intro v hv
    rw [← hC1]
    by_cases hvo : v = 9
    · subst hvo
      rw [Array.getElem?_setIfInBounds_self_of_lt (by rw [Array.size_setIfInBounds]; omega), if_pos rfl]
    · rw [Array.getElem?_setIfInBounds_ne (by omega), Array.getElem?_setIfInBounds_ne (by omega), HC0.out v hv, if_neg hvo])
  have HL1 := Lib.hid (show C1[256]? = some (.slice ta1 1 tc1) by
    rw [← hC1, Array.getElem?_setIfInBounds_ne (by omega), Array.getElem?_setIfInBounds_self_of_lt hcn0])
  have HBE1 := Lib.hid (show Below w.heap.size w V1 by
    rw [← hV1]
    refine Below.setCell ?_ (by first | omega | (simp; done) | (simp; omega)) _
    refine Below.trans ?_ (HBZ.out.mono (by omega))
    exact HBY.out.setCell (by first | omega | (simp; done) | (simp; omega)) _)
  have hsv1 : V1.heap.size = y0.heap.size + 1 := by rw [← hV1]; simp [hzs0]
  have HSV1 := Lib.hid hsv1
  have hsz1 : w.heap.size + 1 < V1.heap.size := by omega
  have hblY0 : Blk y0 (w.heap.size + 1) C0 178 := HYB.out
  have HOWN1 := Lib.hid (own_keep HOY.out (fun g hg => hkb0 g (HOY.out.lt g hg).2 (fun h => own_ne HOY.out hblY0 (by decide) (by rw [hg, h]))))
  have HROW0_1 := Lib.hid (show V1.heap[y0.heap.size]? = some (.cells D0 5 F0) by
    rw [← hV1, heap_setCell_other _ _ _ _ (by first | omega | (simp; done) | (simp; omega))]; exact HD0.out)
  have HRC0 := Lib.hid (show V1.cell? ⟨y0.heap.size, 0, none⟩ = some (.int .u8 92) ∧ V1.cell? ⟨y0.heap.size, 1, none⟩ = some (.int .u8 116) by
    rw [← hV1]
    exact ⟨(World.cell?_setCell_other _ ⟨w.heap.size + 1, 9, none⟩ ⟨y0.heap.size, 0, none⟩ _ (by first | omega | (simp; done) | (simp; omega))).trans HRZ.out.1, (World.cell?_setCell_other _ ⟨w.heap.size + 1, 9, none⟩ ⟨y0.heap.size, 1, none⟩ _ (by first | omega | (simp; done) | (simp; omega))).trans HRZ.out.2⟩)
  clear hV1 hC1 hkb0 hsv1 hblY0 d0 dl0 ea0 eb0 hcv0 dy0 fy0 hzs0 dz0 fz0 hcz0 HBZ HBLZ HRZ HBY HOY HGR HYB
  -- round 1
  have d1 : V1.cell? ⟨w.heap.size + 1, 10, none⟩ = some (.slice none 0 0) := by rw [HBL1.out.cell 10, HC1.out 10 (by omega)]; rfl
  have dl1 : V1.cell? ⟨w.heap.size + 1, 256, none⟩ = some (.slice ta1 1 tc1) := by rw [HBL1.out.cell 256]; exact HL1.out
  have ea1 := (HBE1.out.cell (p := ⟨A, 4, none⟩) hA).trans c4
  have eb1 := (HBE1.out.cell (p := ⟨A, 5, none⟩) hA).trans c5
  have hA1 : A < V1.heap.size := by omega
  have hcv1 := run_convert_bytes_arg (P := Tryz.prog) (V1.alloc (.cells #[.int .u8 10] 5)) 38 5 Tryz.underlying38 Tryz.underlying5 V1.heap.size 0 1 1 [10] rfl
    (fun i hi => by obtain rfl : i = 0 := by omega
                    exact (Blk.new V1 _ _ _ rfl).cell 0) 9 Tryz.underlying9
  rw [show strOfNums [10] = ⟨#[10]⟩ from rfl] at hcv1
  rw [rounds_succ]
  go_wp2_with (at_builtin; refine wpList_append_own _ rfl _ _ 36 rfl w.heap.size 9 is0 (.string ByteArray.empty) 1 16 Tryz.underlying36 his hs0 hs1 hs2 rfl (by decide) _ _ _ rfl (World.ownsRow.alloc (World.ownsRow.alloc HOWN1.out _) _) ⟨V1.heap.size + 1, 0, none⟩ 1 1 [.string ⟨#[10]⟩] rfl rfl ?c1 ?c2 ?c3 ?c4 ?c5 ?_)
  case c1 => exact cells_new _ _ [.string ⟨#[10]⟩] _ (by simp)
  case c2 => intro u hu; simp at hu; rcases hu with rfl; rfl
  case c3 => unfold maxLen; omega
  case c4 => omega
  case c5 => simp; omega
  intro x1 y1 hown1' hgrow1 _
  obtain ⟨ta2, tc2, hv1⟩ := own_slice hown1'
  replace hv1 : x1 = .slice ta2 2 tc2 := hv1
  subst hv1
  have hne1 : some (w.heap.size + 1) ≠ (Value.slice ta1 1 tc1).ownBlock := fun h => own_ne HOWN1.out HBL1.out (by decide) h.symm
  have hby1 : Below w.heap.size w y1 := ((HBE1.out.alloc (by omega) _).alloc (by first | omega | (simp; done) | (simp; omega)) _).grown hgrow1 (by first | omega | (simp; done) | (simp; omega)) (fun k hk => (HOWN1.out.lt k hk).1)
  have hly1 : y1.heap[w.heap.size + 1]? = V1.heap[w.heap.size + 1]? := by
    rw [hgrow1.block _ (by first | omega | (simp; done) | (simp; omega)) hne1, Below.heap_alloc _ _ _ (by first | omega | (simp; done) | (simp; omega)), Below.heap_alloc _ _ _ (by omega)]
  have hbly1 : Blk y1 (w.heap.size + 1) C1 178 := Blk.of HBL1.out hly1
  have hsy1 : w.heap.size + 1 < y1.heap.size := hbly1.lt
  have dy1 : y1.cell? ⟨w.heap.size + 1, 256, none⟩ = some (.slice ta1 1 tc1) := by rw [hbly1.cell 256]; exact HL1.out
  have fy1 := hbly1.free 256
  obtain ⟨Z1, hZ1⟩ : ∃ Z, Lib.bytesWorld (y1.setCell ⟨w.heap.size + 1, 256, none⟩ (.slice ta2 2 tc2)) 5 ⟨#[92, 110]⟩ = Z := ⟨_, rfl⟩
  have hblz1 : Blk Z1 (w.heap.size + 1) (C1.setIfInBounds 256 (.slice ta2 2 tc2)) 178 := by
    rw [← hZ1]; exact Blk.of (hbly1.set 256 _) (Lib.bytesWorld_at_old _ _ _ _ (by first | omega | (simp; done) | (simp; omega)))
  have hbz1 : Below y1.heap.size (y1.setCell ⟨w.heap.size + 1, 256, none⟩ (.slice ta2 2 tc2)) Z1 := by
    rw [← hZ1]; have := Lib.bytesWorld_below (y1.setCell ⟨w.heap.size + 1, 256, none⟩ (.slice ta2 2 tc2)) 5 ⟨#[92, 110]⟩; simpa using this
  have hzs1 : Z1.heap.size = y1.heap.size + 1 := by rw [← hZ1, Lib.bytesWorld_size]; simp
  have dz1 : Z1.cell? ⟨w.heap.size + 1, 10, none⟩ = some (.slice none 0 0) := by
    rw [hblz1.cell 10, Array.getElem?_setIfInBounds_ne (by omega), HC1.out 10 (by omega)]; rfl
  have fz1 := hblz1.free 10
  have hD1 : Z1.heap[y1.heap.size]? = some (.cells (Lib.bytesCells (y1.setCell ⟨w.heap.size + 1, 256, none⟩ (.slice ta2 2 tc2)) 5 ⟨#[92, 110]⟩) 5 ((Lib.bytesCells (y1.setCell ⟨w.heap.size + 1, 256, none⟩ (.slice ta2 2 tc2)) 5 ⟨#[92, 110]⟩).size, (Lib.bytesCells (y1.setCell ⟨w.heap.size + 1, 256, none⟩ (.slice ta2 2 tc2)) 5 ⟨#[92, 110]⟩).size + 1)) := by
    rw [← hZ1]; have := Lib.bytesWorld_at_new (y1.setCell ⟨w.heap.size + 1, 256, none⟩ (.slice ta2 2 tc2)) 5 ⟨#[92, 110]⟩; simpa using this
  obtain ⟨D1, hDD1⟩ : ∃ D, Lib.bytesCells (y1.setCell ⟨w.heap.size + 1, 256, none⟩ (.slice ta2 2 tc2)) 5 ⟨#[92, 110]⟩ = D := ⟨_, rfl⟩
  rw [hDD1] at hD1
  obtain ⟨F1, hF1⟩ : ∃ F, (D1.size, D1.size + 1) = F := ⟨_, rfl⟩
  rw [hF1] at hD1
  have rz1 : Z1.cell? ⟨y1.heap.size, 0, none⟩ = some (.int .u8 92) ∧ Z1.cell? ⟨y1.heap.size, 1, none⟩ = some (.int .u8 110) := by
    rw [← hZ1]
    have h0 := Lib.bytesWorld_cell (y1.setCell ⟨w.heap.size + 1, 256, none⟩ (.slice ta2 2 tc2)) 5 ⟨#[92, 110]⟩ 0 (by decide)
    have h1 := Lib.bytesWorld_cell (y1.setCell ⟨w.heap.size + 1, 256, none⟩ (.slice ta2 2 tc2)) 5 ⟨#[92, 110]⟩ 1 (by decide)
    simp only [World.size_setCell] at h0 h1
    exact ⟨h0, h1⟩
  obtain ⟨K1, hK1⟩ : ∃ K, grownCap (y1.setCell ⟨w.heap.size + 1, 256, none⟩ (.slice ta2 2 tc2)) (⟨#[92, 110]⟩ : ByteArray).size 0 5 = K := ⟨_, rfl⟩
  have hcz1 := HCS.out (y1.setCell ⟨w.heap.size + 1, 256, none⟩ (.slice ta2 2 tc2)) ⟨#[92, 110]⟩
  rw [hZ1, hK1] at hcz1
  simp only [World.size_setCell, show (⟨#[92, 110]⟩ : ByteArray).size = 2 from rfl] at hcz1
  have HBZ := Lib.hid hbz1
  have HD1 := Lib.hid hD1
  have HBLZ := Lib.hid hblz1
  have HRZ := Lib.hid rz1
  have HBY := Lib.hid hby1
  have HOY := Lib.hid hown1'
  have HGR := Lib.hid hgrow1
  have HYB := Lib.hid hbly1
  clear hD1 hDD1 hF1 hbz1 hblz1 rz1 hby1 hown1' hbly1 hly1 hZ1 hK1 hgrow1 hne1
  go_wp2
  obtain ⟨V2, hV2⟩ : ∃ V, Z1.setCell ⟨w.heap.size + 1, 10, none⟩ (.slice (some ⟨y1.heap.size, 0, none⟩) 2 K1) = V := ⟨_, rfl⟩
  rw [hV2]
  have hkb1 : ∀ g, g < y1.heap.size → g ≠ w.heap.size + 1 → V2.heap[g]? = y1.heap[g]? := by
    intro g hg hne
    rw [← hV2, heap_setCell_other _ _ _ _ hne, HBZ.out.block g hg, heap_setCell_other _ _ _ _ hne]
  obtain ⟨C2, hC2⟩ : ∃ C, (C1.setIfInBounds 256 (.slice ta2 2 tc2)).setIfInBounds 10 (.slice (some ⟨y1.heap.size, 0, none⟩) 2 K1) = C := ⟨_, rfl⟩
  have HBL2 := Lib.hid (show Blk V2 (w.heap.size + 1) C2 178 by rw [← hV2, ← hC2]; exact HBLZ.out.set 10 _)
  have hcn1 : 256 < C1.size := (Array.getElem?_eq_some_iff.1 HL1.out).1
  have HC2 := Lib.hid (show ∀ v, v < 256 → C2[v]? = some (if v = 10 then .slice (some ⟨y1.heap.size, 0, none⟩) 2 K1 else if v = 9 then .slice (some ⟨y0.heap.size, 0, none⟩) 2 K0 else .slice none 0 0) by
    intro v hv
    rw [← hC2]
    by_cases hvo : v = 10
    · subst hvo
      rw [Array.getElem?_setIfInBounds_self_of_lt (by rw [Array.size_setIfInBounds]; omega), if_pos rfl]
    · rw [Array.getElem?_setIfInBounds_ne (by omega), Array.getElem?_setIfInBounds_ne (by omega), HC1.out v hv, if_neg hvo])
  have HL2 := Lib.hid (show C2[256]? = some (.slice ta2 2 tc2) by
    rw [← hC2, Array.getElem?_setIfInBounds_ne (by omega), Array.getElem?_setIfInBounds_self_of_lt hcn1])
  have HBE2 := Lib.hid (show Below w.heap.size w V2 by
    rw [← hV2]
    refine Below.setCell ?_ (by first | omega | (simp; done) | (simp; omega)) _
    refine Below.trans ?_ (HBZ.out.mono (by omega))
    exact HBY.out.setCell (by first | omega | (simp; done) | (simp; omega)) _)
  have hsv2 : V2.heap.size = y1.heap.size + 1 := by rw [← hV2]; simp [hzs1]
  have HSV2 := Lib.hid hsv2
  have hsz2 : w.heap.size + 1 < V2.heap.size := by omega
  have hblY1 : Blk y1 (w.heap.size + 1) C1 178 := HYB.out
  have HOWN2 := Lib.hid (own_keep HOY.out (fun g hg => hkb1 g (HOY.out.lt g hg).2 (fun h => own_ne HOY.out hblY1 (by decide) (by rw [hg, h]))))
  have HROW1_2 := Lib.hid (show V2.heap[y1.heap.size]? = some (.cells D1 5 F1) by
    rw [← hV2, heap_setCell_other _ _ _ _ (by first | omega | (simp; done) | (simp; omega))]; exact HD1.out)
  have HRC1 := Lib.hid (show V2.cell? ⟨y1.heap.size, 0, none⟩ = some (.int .u8 92) ∧ V2.cell? ⟨y1.heap.size, 1, none⟩ = some (.int .u8 110) by
    rw [← hV2]
    exact ⟨(World.cell?_setCell_other _ ⟨w.heap.size + 1, 10, none⟩ ⟨y1.heap.size, 0, none⟩ _ (by first | omega | (simp; done) | (simp; omega))).trans HRZ.out.1, (World.cell?_setCell_other _ ⟨w.heap.size + 1, 10, none⟩ ⟨y1.heap.size, 1, none⟩ _ (by first | omega | (simp; done) | (simp; omega))).trans HRZ.out.2⟩)
  have hyk0_1 : y1.heap[y0.heap.size]? = V1.heap[y0.heap.size]? := by
    have h1 := HROW0_1.out
    have h2 := lt_of_heap h1
    rw [HGR.out.block _ (by first | omega | (simp; done) | (simp; omega)) (fun h => own_ne HOWN1.out h1 (by decide) h.symm), Below.heap_alloc _ _ _ (by first | omega | (simp; done) | (simp; omega)), Below.heap_alloc _ _ _ (by omega)]
  have hlt0_1 := lt_of_heap (hyk0_1.trans HROW0_1.out)
  have HROW0_2 := Lib.hid ((hkb1 _ hlt0_1 (by omega)).trans (hyk0_1.trans HROW0_1.out))
  clear hyk0_1 hlt0_1
  clear hV2 hC2 hkb1 hsv2 hblY1 d1 dl1 ea1 eb1 hcv1 dy1 fy1 hzs1 dz1 fz1 hcz1 HBZ HBLZ HRZ HBY HOY HGR HYB
  -- round 2
  have d2 : V2.cell? ⟨w.heap.size + 1, 34, none⟩ = some (.slice none 0 0) := by rw [HBL2.out.cell 34, HC2.out 34 (by omega)]; rfl
  have dl2 : V2.cell? ⟨w.heap.size + 1, 256, none⟩ = some (.slice ta2 2 tc2) := by rw [HBL2.out.cell 256]; exact HL2.out
  have ea2 := (HBE2.out.cell (p := ⟨A, 2, none⟩) hA).trans c2
  have eb2 := (HBE2.out.cell (p := ⟨A, 3, none⟩) hA).trans c3
  have hA2 : A < V2.heap.size := by omega
  have hcv2 := run_convert_bytes_arg (P := Tryz.prog) (V2.alloc (.cells #[.int .u8 34] 5)) 38 5 Tryz.underlying38 Tryz.underlying5 V2.heap.size 0 1 1 [34] rfl
    (fun i hi => by obtain rfl : i = 0 := by omega
                    exact (Blk.new V2 _ _ _ rfl).cell 0) 9 Tryz.underlying9
  rw [show strOfNums [34] = ⟨#[34]⟩ from rfl] at hcv2
  rw [rounds_succ]
  go_wp2_with (at_builtin; refine wpList_append_own _ rfl _ _ 36 rfl w.heap.size 9 is0 (.string ByteArray.empty) 1 16 Tryz.underlying36 his hs0 hs1 hs2 rfl (by decide) _ _ _ rfl (World.ownsRow.alloc (World.ownsRow.alloc HOWN2.out _) _) ⟨V2.heap.size + 1, 0, none⟩ 1 1 [.string ⟨#[34]⟩] rfl rfl ?c1 ?c2 ?c3 ?c4 ?c5 ?_)
  case c1 => exact cells_new _ _ [.string ⟨#[34]⟩] _ (by simp)
  case c2 => intro u hu; simp at hu; rcases hu with rfl; rfl
  case c3 => unfold maxLen; omega
  case c4 => omega
  case c5 => simp; omega
  intro x2 y2 hown2' hgrow2 _
  obtain ⟨ta3, tc3, hv2⟩ := own_slice hown2'
  replace hv2 : x2 = .slice ta3 3 tc3 := hv2
  subst hv2
  have hne2 : some (w.heap.size + 1) ≠ (Value.slice ta2 2 tc2).ownBlock := fun h => own_ne HOWN2.out HBL2.out (by decide) h.symm
  have hby2 : Below w.heap.size w y2 := ((HBE2.out.alloc (by omega) _).alloc (by first | omega | (simp; done) | (simp; omega)) _).grown hgrow2 (by first | omega | (simp; done) | (simp; omega)) (fun k hk => (HOWN2.out.lt k hk).1)
  have hly2 : y2.heap[w.heap.size + 1]? = V2.heap[w.heap.size + 1]? := by
    rw [hgrow2.block _ (by first | omega | (simp; done) | (simp; omega)) hne2, Below.heap_alloc _ _ _ (by first | omega | (simp; done) | (simp; omega)), Below.heap_alloc _ _ _ (by omega)]
  have hbly2 : Blk y2 (w.heap.size + 1) C2 178 := Blk.of HBL2.out hly2
  have hsy2 : w.heap.size + 1 < y2.heap.size := hbly2.lt
  have dy2 : y2.cell? ⟨w.heap.size + 1, 256, none⟩ = some (.slice ta2 2 tc2) := by rw [hbly2.cell 256]; exact HL2.out
  have fy2 := hbly2.free 256
  obtain ⟨Z2, hZ2⟩ : ∃ Z, Lib.bytesWorld (y2.setCell ⟨w.heap.size + 1, 256, none⟩ (.slice ta3 3 tc3)) 5 ⟨#[92, 34]⟩ = Z := ⟨_, rfl⟩
  have hblz2 : Blk Z2 (w.heap.size + 1) (C2.setIfInBounds 256 (.slice ta3 3 tc3)) 178 := by
    rw [← hZ2]; exact Blk.of (hbly2.set 256 _) (Lib.bytesWorld_at_old _ _ _ _ (by first | omega | (simp; done) | (simp; omega)))
  have hbz2 : Below y2.heap.size (y2.setCell ⟨w.heap.size + 1, 256, none⟩ (.slice ta3 3 tc3)) Z2 := by
    rw [← hZ2]; have := Lib.bytesWorld_below (y2.setCell ⟨w.heap.size + 1, 256, none⟩ (.slice ta3 3 tc3)) 5 ⟨#[92, 34]⟩; simpa using this
  have hzs2 : Z2.heap.size = y2.heap.size + 1 := by rw [← hZ2, Lib.bytesWorld_size]; simp
  have dz2 : Z2.cell? ⟨w.heap.size + 1, 34, none⟩ = some (.slice none 0 0) := by
    rw [hblz2.cell 34, Array.getElem?_setIfInBounds_ne (by omega), HC2.out 34 (by omega)]; rfl
  have fz2 := hblz2.free 34
  have hD2 : Z2.heap[y2.heap.size]? = some (.cells (Lib.bytesCells (y2.setCell ⟨w.heap.size + 1, 256, none⟩ (.slice ta3 3 tc3)) 5 ⟨#[92, 34]⟩) 5 ((Lib.bytesCells (y2.setCell ⟨w.heap.size + 1, 256, none⟩ (.slice ta3 3 tc3)) 5 ⟨#[92, 34]⟩).size, (Lib.bytesCells (y2.setCell ⟨w.heap.size + 1, 256, none⟩ (.slice ta3 3 tc3)) 5 ⟨#[92, 34]⟩).size + 1)) := by
    rw [← hZ2]; have := Lib.bytesWorld_at_new (y2.setCell ⟨w.heap.size + 1, 256, none⟩ (.slice ta3 3 tc3)) 5 ⟨#[92, 34]⟩; simpa using this
  obtain ⟨D2, hDD2⟩ : ∃ D, Lib.bytesCells (y2.setCell ⟨w.heap.size + 1, 256, none⟩ (.slice ta3 3 tc3)) 5 ⟨#[92, 34]⟩ = D := ⟨_, rfl⟩
  rw [hDD2] at hD2
  obtain ⟨F2, hF2⟩ : ∃ F, (D2.size, D2.size + 1) = F := ⟨_, rfl⟩
  rw [hF2] at hD2
  have rz2 : Z2.cell? ⟨y2.heap.size, 0, none⟩ = some (.int .u8 92) ∧ Z2.cell? ⟨y2.heap.size, 1, none⟩ = some (.int .u8 34) := by
    rw [← hZ2]
    have h0 := Lib.bytesWorld_cell (y2.setCell ⟨w.heap.size + 1, 256, none⟩ (.slice ta3 3 tc3)) 5 ⟨#[92, 34]⟩ 0 (by decide)
    have h1 := Lib.bytesWorld_cell (y2.setCell ⟨w.heap.size + 1, 256, none⟩ (.slice ta3 3 tc3)) 5 ⟨#[92, 34]⟩ 1 (by decide)
    simp only [World.size_setCell] at h0 h1
    exact ⟨h0, h1⟩
  obtain ⟨K2, hK2⟩ : ∃ K, grownCap (y2.setCell ⟨w.heap.size + 1, 256, none⟩ (.slice ta3 3 tc3)) (⟨#[92, 34]⟩ : ByteArray).size 0 5 = K := ⟨_, rfl⟩
  have hcz2 := HCS.out (y2.setCell ⟨w.heap.size + 1, 256, none⟩ (.slice ta3 3 tc3)) ⟨#[92, 34]⟩
  rw [hZ2, hK2] at hcz2
  simp only [World.size_setCell, show (⟨#[92, 34]⟩ : ByteArray).size = 2 from rfl] at hcz2
  have HBZ := Lib.hid hbz2
  have HD2 := Lib.hid hD2
  have HBLZ := Lib.hid hblz2
  have HRZ := Lib.hid rz2
  have HBY := Lib.hid hby2
  have HOY := Lib.hid hown2'
  have HGR := Lib.hid hgrow2
  have HYB := Lib.hid hbly2
  clear hD2 hDD2 hF2 hbz2 hblz2 rz2 hby2 hown2' hbly2 hly2 hZ2 hK2 hgrow2 hne2
  go_wp2
  obtain ⟨V3, hV3⟩ : ∃ V, Z2.setCell ⟨w.heap.size + 1, 34, none⟩ (.slice (some ⟨y2.heap.size, 0, none⟩) 2 K2) = V := ⟨_, rfl⟩
  rw [hV3]
  have hkb2 : ∀ g, g < y2.heap.size → g ≠ w.heap.size + 1 → V3.heap[g]? = y2.heap[g]? := by
    intro g hg hne
    rw [← hV3, heap_setCell_other _ _ _ _ hne, HBZ.out.block g hg, heap_setCell_other _ _ _ _ hne]
  obtain ⟨C3, hC3⟩ : ∃ C, (C2.setIfInBounds 256 (.slice ta3 3 tc3)).setIfInBounds 34 (.slice (some ⟨y2.heap.size, 0, none⟩) 2 K2) = C := ⟨_, rfl⟩
  have HBL3 := Lib.hid (show Blk V3 (w.heap.size + 1) C3 178 by rw [← hV3, ← hC3]; exact HBLZ.out.set 34 _)
  have hcn2 : 256 < C2.size := (Array.getElem?_eq_some_iff.1 HL2.out).1
  have HC3 := Lib.hid (show ∀ v, v < 256 → C3[v]? = some (if v = 34 then .slice (some ⟨y2.heap.size, 0, none⟩) 2 K2 else if v = 10 then .slice (some ⟨y1.heap.size, 0, none⟩) 2 K1 else if v = 9 then .slice (some ⟨y0.heap.size, 0, none⟩) 2 K0 else .slice none 0 0) by
    intro v hv
    rw [← hC3]
    by_cases hvo : v = 34
    · subst hvo
      rw [Array.getElem?_setIfInBounds_self_of_lt (by rw [Array.size_setIfInBounds]; omega), if_pos rfl]
    · rw [Array.getElem?_setIfInBounds_ne (by omega), Array.getElem?_setIfInBounds_ne (by omega), HC2.out v hv, if_neg hvo])
  have HL3 := Lib.hid (show C3[256]? = some (.slice ta3 3 tc3) by
    rw [← hC3, Array.getElem?_setIfInBounds_ne (by omega), Array.getElem?_setIfInBounds_self_of_lt hcn2])
  have HBE3 := Lib.hid (show Below w.heap.size w V3 by
    rw [← hV3]
    refine Below.setCell ?_ (by first | omega | (simp; done) | (simp; omega)) _
    refine Below.trans ?_ (HBZ.out.mono (by omega))
    exact HBY.out.setCell (by first | omega | (simp; done) | (simp; omega)) _)
  have hsv3 : V3.heap.size = y2.heap.size + 1 := by rw [← hV3]; simp [hzs2]
  have HSV3 := Lib.hid hsv3
  have hsz3 : w.heap.size + 1 < V3.heap.size := by omega
  have hblY2 : Blk y2 (w.heap.size + 1) C2 178 := HYB.out
  have HOWN3 := Lib.hid (own_keep HOY.out (fun g hg => hkb2 g (HOY.out.lt g hg).2 (fun h => own_ne HOY.out hblY2 (by decide) (by rw [hg, h]))))
  have HROW2_3 := Lib.hid (show V3.heap[y2.heap.size]? = some (.cells D2 5 F2) by
    rw [← hV3, heap_setCell_other _ _ _ _ (by first | omega | (simp; done) | (simp; omega))]; exact HD2.out)
  have HRC2 := Lib.hid (show V3.cell? ⟨y2.heap.size, 0, none⟩ = some (.int .u8 92) ∧ V3.cell? ⟨y2.heap.size, 1, none⟩ = some (.int .u8 34) by
    rw [← hV3]
    exact ⟨(World.cell?_setCell_other _ ⟨w.heap.size + 1, 34, none⟩ ⟨y2.heap.size, 0, none⟩ _ (by first | omega | (simp; done) | (simp; omega))).trans HRZ.out.1, (World.cell?_setCell_other _ ⟨w.heap.size + 1, 34, none⟩ ⟨y2.heap.size, 1, none⟩ _ (by first | omega | (simp; done) | (simp; omega))).trans HRZ.out.2⟩)
  have hyk0_2 : y2.heap[y0.heap.size]? = V2.heap[y0.heap.size]? := by
    have h1 := HROW0_2.out
    have h2 := lt_of_heap h1
    rw [HGR.out.block _ (by first | omega | (simp; done) | (simp; omega)) (fun h => own_ne HOWN2.out h1 (by decide) h.symm), Below.heap_alloc _ _ _ (by first | omega | (simp; done) | (simp; omega)), Below.heap_alloc _ _ _ (by omega)]
  have hlt0_2 := lt_of_heap (hyk0_2.trans HROW0_2.out)
  have HROW0_3 := Lib.hid ((hkb2 _ hlt0_2 (by omega)).trans (hyk0_2.trans HROW0_2.out))
  clear hyk0_2 hlt0_2
  have hyk1_2 : y2.heap[y1.heap.size]? = V2.heap[y1.heap.size]? := by
    have h1 := HROW1_2.out
    have h2 := lt_of_heap h1
    rw [HGR.out.block _ (by first | omega | (simp; done) | (simp; omega)) (fun h => own_ne HOWN2.out h1 (by decide) h.symm), Below.heap_alloc _ _ _ (by first | omega | (simp; done) | (simp; omega)), Below.heap_alloc _ _ _ (by omega)]
  have hlt1_2 := lt_of_heap (hyk1_2.trans HROW1_2.out)
  have HROW1_3 := Lib.hid ((hkb2 _ hlt1_2 (by omega)).trans (hyk1_2.trans HROW1_2.out))
  clear hyk1_2 hlt1_2
  clear hV3 hC3 hkb2 hsv3 hblY2 d2 dl2 ea2 eb2 hcv2 dy2 fy2 hzs2 dz2 fz2 hcz2 HBZ HBLZ HRZ HBY HOY HGR HYB
  -- round 3
  have d3 : V3.cell? ⟨w.heap.size + 1, 92, none⟩ = some (.slice none 0 0) := by rw [HBL3.out.cell 92, HC3.out 92 (by omega)]; rfl
  have dl3 : V3.cell? ⟨w.heap.size + 1, 256, none⟩ = some (.slice ta3 3 tc3) := by rw [HBL3.out.cell 256]; exact HL3.out
  have ea3 := (HBE3.out.cell (p := ⟨A, 0, none⟩) hA).trans c0
  have eb3 := (HBE3.out.cell (p := ⟨A, 1, none⟩) hA).trans c1
  have hA3 : A < V3.heap.size := by omega
  have hcv3 := run_convert_bytes_arg (P := Tryz.prog) (V3.alloc (.cells #[.int .u8 92] 5)) 38 5 Tryz.underlying38 Tryz.underlying5 V3.heap.size 0 1 1 [92] rfl
    (fun i hi => by obtain rfl : i = 0 := by omega
                    exact (Blk.new V3 _ _ _ rfl).cell 0) 9 Tryz.underlying9
  rw [show strOfNums [92] = ⟨#[92]⟩ from rfl] at hcv3
  rw [rounds_succ]
  go_wp2_with (at_builtin; refine wpList_append_own _ rfl _ _ 36 rfl w.heap.size 9 is0 (.string ByteArray.empty) 1 16 Tryz.underlying36 his hs0 hs1 hs2 rfl (by decide) _ _ _ rfl (World.ownsRow.alloc (World.ownsRow.alloc HOWN3.out _) _) ⟨V3.heap.size + 1, 0, none⟩ 1 1 [.string ⟨#[92]⟩] rfl rfl ?c1 ?c2 ?c3 ?c4 ?c5 ?_)
  case c1 => exact cells_new _ _ [.string ⟨#[92]⟩] _ (by simp)
  case c2 => intro u hu; simp at hu; rcases hu with rfl; rfl
  case c3 => unfold maxLen; omega
  case c4 => omega
  case c5 => simp; omega
  intro x3 y3 hown3' hgrow3 _
  obtain ⟨ta4, tc4, hv3⟩ := own_slice hown3'
  replace hv3 : x3 = .slice ta4 4 tc4 := hv3
  subst hv3
  have hne3 : some (w.heap.size + 1) ≠ (Value.slice ta3 3 tc3).ownBlock := fun h => own_ne HOWN3.out HBL3.out (by decide) h.symm
  have hby3 : Below w.heap.size w y3 := ((HBE3.out.alloc (by omega) _).alloc (by first | omega | (simp; done) | (simp; omega)) _).grown hgrow3 (by first | omega | (simp; done) | (simp; omega)) (fun k hk => (HOWN3.out.lt k hk).1)
  have hly3 : y3.heap[w.heap.size + 1]? = V3.heap[w.heap.size + 1]? := by
    rw [hgrow3.block _ (by first | omega | (simp; done) | (simp; omega)) hne3, Below.heap_alloc _ _ _ (by first | omega | (simp; done) | (simp; omega)), Below.heap_alloc _ _ _ (by omega)]
  have hbly3 : Blk y3 (w.heap.size + 1) C3 178 := Blk.of HBL3.out hly3
  have hsy3 : w.heap.size + 1 < y3.heap.size := hbly3.lt
  have dy3 : y3.cell? ⟨w.heap.size + 1, 256, none⟩ = some (.slice ta3 3 tc3) := by rw [hbly3.cell 256]; exact HL3.out
  have fy3 := hbly3.free 256
  obtain ⟨Z3, hZ3⟩ : ∃ Z, Lib.bytesWorld (y3.setCell ⟨w.heap.size + 1, 256, none⟩ (.slice ta4 4 tc4)) 5 ⟨#[92, 92]⟩ = Z := ⟨_, rfl⟩
  have hblz3 : Blk Z3 (w.heap.size + 1) (C3.setIfInBounds 256 (.slice ta4 4 tc4)) 178 := by
    rw [← hZ3]; exact Blk.of (hbly3.set 256 _) (Lib.bytesWorld_at_old _ _ _ _ (by first | omega | (simp; done) | (simp; omega)))
  have hbz3 : Below y3.heap.size (y3.setCell ⟨w.heap.size + 1, 256, none⟩ (.slice ta4 4 tc4)) Z3 := by
    rw [← hZ3]; have := Lib.bytesWorld_below (y3.setCell ⟨w.heap.size + 1, 256, none⟩ (.slice ta4 4 tc4)) 5 ⟨#[92, 92]⟩; simpa using this
  have hzs3 : Z3.heap.size = y3.heap.size + 1 := by rw [← hZ3, Lib.bytesWorld_size]; simp
  have dz3 : Z3.cell? ⟨w.heap.size + 1, 92, none⟩ = some (.slice none 0 0) := by
    rw [hblz3.cell 92, Array.getElem?_setIfInBounds_ne (by omega), HC3.out 92 (by omega)]; rfl
  have fz3 := hblz3.free 92
  have hD3 : Z3.heap[y3.heap.size]? = some (.cells (Lib.bytesCells (y3.setCell ⟨w.heap.size + 1, 256, none⟩ (.slice ta4 4 tc4)) 5 ⟨#[92, 92]⟩) 5 ((Lib.bytesCells (y3.setCell ⟨w.heap.size + 1, 256, none⟩ (.slice ta4 4 tc4)) 5 ⟨#[92, 92]⟩).size, (Lib.bytesCells (y3.setCell ⟨w.heap.size + 1, 256, none⟩ (.slice ta4 4 tc4)) 5 ⟨#[92, 92]⟩).size + 1)) := by
    rw [← hZ3]; have := Lib.bytesWorld_at_new (y3.setCell ⟨w.heap.size + 1, 256, none⟩ (.slice ta4 4 tc4)) 5 ⟨#[92, 92]⟩; simpa using this
  obtain ⟨D3, hDD3⟩ : ∃ D, Lib.bytesCells (y3.setCell ⟨w.heap.size + 1, 256, none⟩ (.slice ta4 4 tc4)) 5 ⟨#[92, 92]⟩ = D := ⟨_, rfl⟩
  rw [hDD3] at hD3
  obtain ⟨F3, hF3⟩ : ∃ F, (D3.size, D3.size + 1) = F := ⟨_, rfl⟩
  rw [hF3] at hD3
  have rz3 : Z3.cell? ⟨y3.heap.size, 0, none⟩ = some (.int .u8 92) ∧ Z3.cell? ⟨y3.heap.size, 1, none⟩ = some (.int .u8 92) := by
    rw [← hZ3]
    have h0 := Lib.bytesWorld_cell (y3.setCell ⟨w.heap.size + 1, 256, none⟩ (.slice ta4 4 tc4)) 5 ⟨#[92, 92]⟩ 0 (by decide)
    have h1 := Lib.bytesWorld_cell (y3.setCell ⟨w.heap.size + 1, 256, none⟩ (.slice ta4 4 tc4)) 5 ⟨#[92, 92]⟩ 1 (by decide)
    simp only [World.size_setCell] at h0 h1
    exact ⟨h0, h1⟩
  obtain ⟨K3, hK3⟩ : ∃ K, grownCap (y3.setCell ⟨w.heap.size + 1, 256, none⟩ (.slice ta4 4 tc4)) (⟨#[92, 92]⟩ : ByteArray).size 0 5 = K := ⟨_, rfl⟩
  have hcz3 := HCS.out (y3.setCell ⟨w.heap.size + 1, 256, none⟩ (.slice ta4 4 tc4)) ⟨#[92, 92]⟩
  rw [hZ3, hK3] at hcz3
  simp only [World.size_setCell, show (⟨#[92, 92]⟩ : ByteArray).size = 2 from rfl] at hcz3
  have HBZ := Lib.hid hbz3
  have HD3 := Lib.hid hD3
  have HBLZ := Lib.hid hblz3
  have HRZ := Lib.hid rz3
  have HBY := Lib.hid hby3
  have HOY := Lib.hid hown3'
  have HGR := Lib.hid hgrow3
  have HYB := Lib.hid hbly3
  clear hD3 hDD3 hF3 hbz3 hblz3 rz3 hby3 hown3' hbly3 hly3 hZ3 hK3 hgrow3 hne3
  go_wp2
  obtain ⟨V4, hV4⟩ : ∃ V, Z3.setCell ⟨w.heap.size + 1, 92, none⟩ (.slice (some ⟨y3.heap.size, 0, none⟩) 2 K3) = V := ⟨_, rfl⟩
  rw [hV4]
  have hkb3 : ∀ g, g < y3.heap.size → g ≠ w.heap.size + 1 → V4.heap[g]? = y3.heap[g]? := by
    intro g hg hne
    rw [← hV4, heap_setCell_other _ _ _ _ hne, HBZ.out.block g hg, heap_setCell_other _ _ _ _ hne]
  obtain ⟨C4, hC4⟩ : ∃ C, (C3.setIfInBounds 256 (.slice ta4 4 tc4)).setIfInBounds 92 (.slice (some ⟨y3.heap.size, 0, none⟩) 2 K3) = C := ⟨_, rfl⟩
  have HBL4 := Lib.hid (show Blk V4 (w.heap.size + 1) C4 178 by rw [← hV4, ← hC4]; exact HBLZ.out.set 92 _)
  have hcn3 : 256 < C3.size := (Array.getElem?_eq_some_iff.1 HL3.out).1
  have HC4 := Lib.hid (show ∀ v, v < 256 → C4[v]? = some (if v = 92 then .slice (some ⟨y3.heap.size, 0, none⟩) 2 K3 else if v = 34 then .slice (some ⟨y2.heap.size, 0, none⟩) 2 K2 else if v = 10 then .slice (some ⟨y1.heap.size, 0, none⟩) 2 K1 else if v = 9 then .slice (some ⟨y0.heap.size, 0, none⟩) 2 K0 else .slice none 0 0) by
    intro v hv
    rw [← hC4]
    by_cases hvo : v = 92
    · subst hvo
      rw [Array.getElem?_setIfInBounds_self_of_lt (by rw [Array.size_setIfInBounds]; omega), if_pos rfl]
    · rw [Array.getElem?_setIfInBounds_ne (by omega), Array.getElem?_setIfInBounds_ne (by omega), HC3.out v hv, if_neg hvo])
  have HL4 := Lib.hid (show C4[256]? = some (.slice ta4 4 tc4) by
    rw [← hC4, Array.getElem?_setIfInBounds_ne (by omega), Array.getElem?_setIfInBounds_self_of_lt hcn3])
  have HBE4 := Lib.hid (show Below w.heap.size w V4 by
    rw [← hV4]
    refine Below.setCell ?_ (by first | omega | (simp; done) | (simp; omega)) _
    refine Below.trans ?_ (HBZ.out.mono (by omega))
    exact HBY.out.setCell (by first | omega | (simp; done) | (simp; omega)) _)
  have hsv4 : V4.heap.size = y3.heap.size + 1 := by rw [← hV4]; simp [hzs3]
  have HSV4 := Lib.hid hsv4
  have hsz4 : w.heap.size + 1 < V4.heap.size := by omega
  have hblY3 : Blk y3 (w.heap.size + 1) C3 178 := HYB.out
  have HOWN4 := Lib.hid (own_keep HOY.out (fun g hg => hkb3 g (HOY.out.lt g hg).2 (fun h => own_ne HOY.out hblY3 (by decide) (by rw [hg, h]))))
  have HROW3_4 := Lib.hid (show V4.heap[y3.heap.size]? = some (.cells D3 5 F3) by
    rw [← hV4, heap_setCell_other _ _ _ _ (by first | omega | (simp; done) | (simp; omega))]; exact HD3.out)
  have HRC3 := Lib.hid (show V4.cell? ⟨y3.heap.size, 0, none⟩ = some (.int .u8 92) ∧ V4.cell? ⟨y3.heap.size, 1, none⟩ = some (.int .u8 92) by
    rw [← hV4]
    exact ⟨(World.cell?_setCell_other _ ⟨w.heap.size + 1, 92, none⟩ ⟨y3.heap.size, 0, none⟩ _ (by first | omega | (simp; done) | (simp; omega))).trans HRZ.out.1, (World.cell?_setCell_other _ ⟨w.heap.size + 1, 92, none⟩ ⟨y3.heap.size, 1, none⟩ _ (by first | omega | (simp; done) | (simp; omega))).trans HRZ.out.2⟩)
  have hyk0_3 : y3.heap[y0.heap.size]? = V3.heap[y0.heap.size]? := by
    have h1 := HROW0_3.out
    have h2 := lt_of_heap h1
    rw [HGR.out.block _ (by first | omega | (simp; done) | (simp; omega)) (fun h => own_ne HOWN3.out h1 (by decide) h.symm), Below.heap_alloc _ _ _ (by first | omega | (simp; done) | (simp; omega)), Below.heap_alloc _ _ _ (by omega)]
  have hlt0_3 := lt_of_heap (hyk0_3.trans HROW0_3.out)
  have HROW0_4 := Lib.hid ((hkb3 _ hlt0_3 (by omega)).trans (hyk0_3.trans HROW0_3.out))
  clear hyk0_3 hlt0_3
  have hyk1_3 : y3.heap[y1.heap.size]? = V3.heap[y1.heap.size]? := by
    have h1 := HROW1_3.out
    have h2 := lt_of_heap h1
    rw [HGR.out.block _ (by first | omega | (simp; done) | (simp; omega)) (fun h => own_ne HOWN3.out h1 (by decide) h.symm), Below.heap_alloc _ _ _ (by first | omega | (simp; done) | (simp; omega)), Below.heap_alloc _ _ _ (by omega)]
  have hlt1_3 := lt_of_heap (hyk1_3.trans HROW1_3.out)
  have HROW1_4 := Lib.hid ((hkb3 _ hlt1_3 (by omega)).trans (hyk1_3.trans HROW1_3.out))
  clear hyk1_3 hlt1_3
  have hyk2_3 : y3.heap[y2.heap.size]? = V3.heap[y2.heap.size]? := by
    have h1 := HROW2_3.out
    have h2 := lt_of_heap h1
    rw [HGR.out.block _ (by first | omega | (simp; done) | (simp; omega)) (fun h => own_ne HOWN3.out h1 (by decide) h.symm), Below.heap_alloc _ _ _ (by first | omega | (simp; done) | (simp; omega)), Below.heap_alloc _ _ _ (by omega)]
  have hlt2_3 := lt_of_heap (hyk2_3.trans HROW2_3.out)
  have HROW2_4 := Lib.hid ((hkb3 _ hlt2_3 (by omega)).trans (hyk2_3.trans HROW2_3.out))
  clear hyk2_3 hlt2_3
  clear hV4 hC4 hkb3 hsv4 hblY3 d3 dl3 ea3 eb3 hcv3 dy3 fy3 hzs3 dz3 fz3 hcz3 HBZ HBLZ HRZ HBY HOY HGR HYB
  rw [rounds_succ]
  go_wp2
  go_ret
  refine ⟨w.heap.size + 1, rfl, ⟨C4, y0.heap.size, K0, y1.heap.size, K1, y2.heap.size, K2, y3.heap.size, K3, .slice ta4 4 tc4, by omega, HBL4.out, HC4.out, HL4.out, HOWN4.out, ⟨lt_of_heap HROW0_4.out, lt_of_heap HROW1_4.out, lt_of_heap HROW2_4.out, lt_of_heap HROW3_4.out⟩, ?_, ?_, ?_, ?_⟩, HBE4.out⟩
  · exact ⟨(World.cell?_of_block (w := V1) (a := ⟨y0.heap.size, 0, none⟩) (HROW0_4.out.trans HROW0_1.out.symm)).trans HRC0.out.1, (World.cell?_of_block (w := V1) (a := ⟨y0.heap.size, 1, none⟩) (HROW0_4.out.trans HROW0_1.out.symm)).trans HRC0.out.2⟩
  · exact ⟨(World.cell?_of_block (w := V2) (a := ⟨y1.heap.size, 0, none⟩) (HROW1_4.out.trans HROW1_2.out.symm)).trans HRC1.out.1, (World.cell?_of_block (w := V2) (a := ⟨y1.heap.size, 1, none⟩) (HROW1_4.out.trans HROW1_2.out.symm)).trans HRC1.out.2⟩
  · exact ⟨(World.cell?_of_block (w := V3) (a := ⟨y2.heap.size, 0, none⟩) (HROW2_4.out.trans HROW2_3.out.symm)).trans HRC2.out.1, (World.cell?_of_block (w := V3) (a := ⟨y2.heap.size, 1, none⟩) (HROW2_4.out.trans HROW2_3.out.symm)).trans HRC2.out.2⟩
  · exact ⟨(World.cell?_of_block (w := V4) (a := ⟨y3.heap.size, 0, none⟩) (HROW3_4.out.trans HROW3_4.out.symm)).trans HRC3.out.1, (World.cell?_of_block (w := V4) (a := ⟨y3.heap.size, 1, none⟩) (HROW3_4.out.trans HROW3_4.out.symm)).trans HRC3.out.2⟩
end Go.Proofs.YtaojgcioljcpmaaGreatDoor
