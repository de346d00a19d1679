/- Contracts: the reference's words, primitives, signs; at, alike; the statement LexWords behind its small examples. -/
import Derived.Test.YtaojgcioljcpmaaGreatDoorLexL
namespace Go.Proofs.YtaojgcioljcpmaaGreatDoor
open Go.RowKit

set_option maxHeartbeats 1000000 in
theorem at_any (n : Int) (w : World) (hn : 0 ≤ n ∧ n ≤ 1000000) :
    Calls Tryz.prog 25 #[.int .i64 n] w fun e w' => e = .returned (.agg #[.int .i64 n, .int .i64 1, .int .i64 (n + 1)]) ∧ Below w.heap.size w w' := by
  go_enter Tryz.func25, Tryz.ntmps25
  go_wp2
  refine bodyPost_ret (v := .agg #[.int .i64 n, .int .i64 1, .int .i64 (n + 1)]) (by simp [results, Tryz.results25, go_sem]) rfl ⟨rfl, ?_⟩
  (repeat (with_reducible first | exact Below.refl _ _ | refine Below.setCell ?_ ?_ _ | refine Below.alloc ?_ ?_ _ | refine Below.drewN ?_ _ | refine Below.drew ?_)) <;> first | omega | (simp; omega) | (simp; done)

set_option maxHeartbeats 1000000 in
/-- two rows of the same texts are alike -/
theorem alike_any (A C n : Nat) (l : List (List UInt8)) (w : World) (hn : l.length = n) (hl : n ≤ 1000) (h1 : StrAt w A l) (h2 : StrAt w C l) (hlen : (Lib.join l [32]).length ≤ 100000) :
    Calls Tryz.prog 18 #[.slice (some ⟨A, 0, none⟩) n n, .slice (some ⟨C, 0, none⟩) n n] w fun e w' => e = .returned (.bool true) ∧ Below w.heap.size w w' := by
  have hm : (l.map fun x => (⟨x.toArray⟩ : ByteArray)).map (·.data.toList) = l := by
    rw [List.map_map]
    conv => rhs; rw [← List.map_id l]
    rfl
  have hml : (l.map fun x => (⟨x.toArray⟩ : ByteArray)).length = n := by rw [List.length_map]; exact hn
  have hj : ∀ (D : Nat) (W : World), StrAt W D l → Calls Tryz.prog 35 #[.slice (some ⟨D, 0, none⟩) n n, .string ⟨#[32]⟩] W fun e w' => e = .returned (.string ⟨(Lib.join l [32]).toArray⟩) ∧ Below W.heap.size W w' := by
    intro D W hD
    have := Tryz.strings_Join D 0 n (l.map fun x => (⟨x.toArray⟩ : ByteArray)) ⟨#[32]⟩ W (fun j x hx => by
      rw [List.getElem?_map, Option.map_eq_some_iff] at hx
      obtain ⟨y, hy, rfl⟩ := hx
      rw [Nat.zero_add]
      exact hD.2 j y hy) hD.1 (by rw [hml]; omega) (by rw [hml]; exact Nat.le_refl _) (by rw [hm]; exact Nat.le_trans hlen (by decide))
    rw [hml, hm] at this
    exact this
  have HJ := Lib.hid hj
  have H1 := Lib.hid h1
  have H2 := Lib.hid h2
  clear hj h1 h2 hm hml
  go_enter Tryz.func18, Tryz.ntmps18
  go_wp2_with fail
  refine (HJ.out A w H1.out).mono ?_
  rintro _ w2 ⟨rfl, hb2⟩
  have HB2 := Lib.hid hb2
  clear hb2
  go_wp2_with fail
  refine (HJ.out C w2 (H2.out.below HB2.out)).mono ?_
  rintro _ w3 ⟨rfl, hb3⟩
  have HB3 := Lib.hid hb3
  clear hb3
  go_wp2
  go_ret
  exact ⟨rfl, HB2.out.trans (HB3.out.mono HB2.out.size)⟩

set_option maxHeartbeats 1000000 in
theorem rwords_any (w : World) :
    Calls Tryz.prog 20 #[] w fun e w' => ∃ A, e = .returned (.slice (some ⟨A, 0, none⟩) 6 6) ∧ StrAt w' A T.words ∧ Below w.heap.size w w' := by
  go_enter Tryz.func20, Tryz.ntmps20
  go_wp2
  go_ret
  refine ⟨w.heap.size, rfl, ⟨by simp, fun j x hj => ?_⟩, (Below.refl _ _).alloc (Nat.le_refl _) _⟩
  have hb := Blk.new w w.heap.size #[.string ⟨#[108, 101, 116]⟩, .string ⟨#[114, 101, 99]⟩, .string ⟨#[105, 110]⟩, .string ⟨#[99, 97, 115, 101]⟩, .string ⟨#[111, 102]⟩, .string ⟨#[100, 97, 116, 97]⟩] 9 rfl
  refine (hb.cell j).trans ?_
  have hl : #[.string ⟨#[108, 101, 116]⟩, .string ⟨#[114, 101, 99]⟩, .string ⟨#[105, 110]⟩, .string ⟨#[99, 97, 115, 101]⟩, .string ⟨#[111, 102]⟩, .string ⟨#[100, 97, 116, 97]⟩] = (T.words.map fun x => Value.string ⟨x.toArray⟩).toArray := rfl
  rw [hl, List.getElem?_toArray, List.getElem?_map, hj]
  rfl

set_option maxHeartbeats 1000000 in
theorem rprims_any (w : World) :
    Calls Tryz.prog 22 #[] w fun e w' => ∃ A, e = .returned (.slice (some ⟨A, 0, none⟩) 10 10) ∧ StrAt w' A T.prims ∧ Below w.heap.size w w' := by
  go_enter Tryz.func22, Tryz.ntmps22
  go_wp2
  go_ret
  refine ⟨w.heap.size, rfl, ⟨by simp, fun j x hj => ?_⟩, (Below.refl _ _).alloc (Nat.le_refl _) _⟩
  have hb := Blk.new w w.heap.size #[.string ⟨#[111, 112, 101, 110]⟩, .string ⟨#[114, 101, 97, 100]⟩, .string ⟨#[119, 114, 105, 116, 101]⟩, .string ⟨#[99, 108, 111, 115, 101]⟩, .string ⟨#[97, 114, 114, 97, 121]⟩, .string ⟨#[103, 101, 116]⟩, .string ⟨#[115, 101, 116]⟩, .string ⟨#[115, 105, 122, 101]⟩, .string ⟨#[102, 97, 105, 108]⟩, .string ⟨#[108, 101, 110]⟩] 9 rfl
  refine (hb.cell j).trans ?_
  have hl : #[.string ⟨#[111, 112, 101, 110]⟩, .string ⟨#[114, 101, 97, 100]⟩, .string ⟨#[119, 114, 105, 116, 101]⟩, .string ⟨#[99, 108, 111, 115, 101]⟩, .string ⟨#[97, 114, 114, 97, 121]⟩, .string ⟨#[103, 101, 116]⟩, .string ⟨#[115, 101, 116]⟩, .string ⟨#[115, 105, 122, 101]⟩, .string ⟨#[102, 97, 105, 108]⟩, .string ⟨#[108, 101, 110]⟩] = (T.prims.map fun x => Value.string ⟨x.toArray⟩).toArray := rfl
  rw [hl, List.getElem?_toArray, List.getElem?_map, hj]
  rfl

set_option maxHeartbeats 1000000 in
theorem rsigns_any (w : World) :
    Calls Tryz.prog 24 #[] w fun e w' => ∃ A, e = .returned (.slice (some ⟨A, 0, none⟩) 22 22) ∧ StrAt w' A T.signs ∧ Below w.heap.size w w' := by
  go_enter Tryz.func24, Tryz.ntmps24
  go_wp2
  go_ret
  refine ⟨w.heap.size, rfl, ⟨by simp, fun j x hj => ?_⟩, (Below.refl _ _).alloc (Nat.le_refl _) _⟩
  have hb := Blk.new w w.heap.size #[.string ⟨#[92]⟩, .string ⟨#[45, 62]⟩, .string ⟨#[45, 49, 62]⟩, .string ⟨#[45, 63, 62]⟩, .string ⟨#[45, 42, 62]⟩, .string ⟨#[61]⟩, .string ⟨#[61, 61]⟩, .string ⟨#[59]⟩, .string ⟨#[123]⟩, .string ⟨#[125]⟩, .string ⟨#[40]⟩, .string ⟨#[41]⟩, .string ⟨#[124]⟩, .string ⟨#[60]⟩, .string ⟨#[43, 43]⟩, .string ⟨#[43]⟩, .string ⟨#[45]⟩, .string ⟨#[42]⟩, .string ⟨#[47]⟩, .string ⟨#[37]⟩, .string ⟨#[95]⟩, .string ⟨#[63]⟩] 9 rfl
  refine (hb.cell j).trans ?_
  have hl : #[.string ⟨#[92]⟩, .string ⟨#[45, 62]⟩, .string ⟨#[45, 49, 62]⟩, .string ⟨#[45, 63, 62]⟩, .string ⟨#[45, 42, 62]⟩, .string ⟨#[61]⟩, .string ⟨#[61, 61]⟩, .string ⟨#[59]⟩, .string ⟨#[123]⟩, .string ⟨#[125]⟩, .string ⟨#[40]⟩, .string ⟨#[41]⟩, .string ⟨#[124]⟩, .string ⟨#[60]⟩, .string ⟨#[43, 43]⟩, .string ⟨#[43]⟩, .string ⟨#[45]⟩, .string ⟨#[42]⟩, .string ⟨#[47]⟩, .string ⟨#[37]⟩, .string ⟨#[95]⟩, .string ⟨#[63]⟩] = (T.signs.map fun x => Value.string ⟨x.toArray⟩).toArray := rfl
  rw [hl, List.getElem?_toArray, List.getElem?_map, hj]
  rfl

set_option maxHeartbeats 4000000 in
/-- LexWords, behind the small examples -/
theorem LexWords_walk (G : Nat) (w : World) (hT : Tabs G w) (hk : Calls Tryz.prog 8 #[] w fun e w' => e = .returned (.bool true) ∧ Below w.heap.size w w') :
    Calls Tryz.prog 7 #[] w fun e w' => e = .returned (.bool true) ∧ Below w.heap.size w w' := by
  have HT := Lib.hid hT
  have HK := Lib.hid hk
  clear hT hk
  go_enter Tryz.func7, Tryz.ntmps7
  go_wp2_with fail
  refine HK.out.mono ?_
  rintro _ v0 ⟨rfl, hb0⟩
  have HB0 := Lib.hid hb0
  clear hb0
  go_wp2_with fail
  refine (words_any G v0 (HT.out.below (HB0.out.mono HT.out.le))).mono ?_
  rintro _ v1 ⟨A0, rfl, _, hst0, hb1⟩
  have HB1 := Lib.hid (HB0.out.trans (hb1.mono HB0.out.size))
  have HST0 := Lib.hid hst0
  clear hb1 hst0
  go_wp2_with fail
  refine (rwords_any v1).mono ?_
  rintro _ v2 ⟨C0, rfl, hsr0, hb2⟩
  have HB2 := Lib.hid (HB1.out.trans (hb2.mono HB1.out.size))
  have HSA0 := Lib.hid (HST0.out.below hb2)
  have HSR0 := Lib.hid hsr0
  clear hb2 hsr0
  go_wp2_with fail
  refine (alike_any A0 C0 6 T.words v2 rfl (by decide) HSA0.out HSR0.out (by decide)).mono ?_
  rintro _ v3 ⟨rfl, hb3⟩
  have HB3 := Lib.hid (HB2.out.trans (hb3.mono HB2.out.size))
  clear hb3
  go_wp2_with fail
  refine (prims_any G v3 (HT.out.below (HB3.out.mono HT.out.le))).mono ?_
  rintro _ v4 ⟨A1, rfl, _, hst1, hb4⟩
  have HB4 := Lib.hid (HB3.out.trans (hb4.mono HB3.out.size))
  have HST1 := Lib.hid hst1
  clear hb4 hst1
  go_wp2_with fail
  refine (rprims_any v4).mono ?_
  rintro _ v5 ⟨C1, rfl, hsr1, hb5⟩
  have HB5 := Lib.hid (HB4.out.trans (hb5.mono HB4.out.size))
  have HSA1 := Lib.hid (HST1.out.below hb5)
  have HSR1 := Lib.hid hsr1
  clear hb5 hsr1
  go_wp2_with fail
  refine (alike_any A1 C1 10 T.prims v5 rfl (by decide) HSA1.out HSR1.out (by decide)).mono ?_
  rintro _ v6 ⟨rfl, hb6⟩
  have HB6 := Lib.hid (HB5.out.trans (hb6.mono HB5.out.size))
  clear hb6
  go_wp2_with fail
  refine (signs_any G v6 (HT.out.below (HB6.out.mono HT.out.le))).mono ?_
  rintro _ v7 ⟨A2, rfl, _, hst2, hb7⟩
  have HB7 := Lib.hid (HB6.out.trans (hb7.mono HB6.out.size))
  have HST2 := Lib.hid hst2
  clear hb7 hst2
  go_wp2_with fail
  refine (rsigns_any v7).mono ?_
  rintro _ v8 ⟨C2, rfl, hsr2, hb8⟩
  have HB8 := Lib.hid (HB7.out.trans (hb8.mono HB7.out.size))
  have HSA2 := Lib.hid (HST2.out.below hb8)
  have HSR2 := Lib.hid hsr2
  clear hb8 hsr2
  go_wp2_with fail
  refine (alike_any A2 C2 22 T.signs v8 rfl (by decide) HSA2.out HSR2.out (by decide)).mono ?_
  rintro _ v9 ⟨rfl, hb9⟩
  have HB9 := Lib.hid (HB8.out.trans (hb9.mono HB8.out.size))
  clear hb9
  go_wp2
  go_ret
  exact ⟨rfl, HB9.out⟩
end Go.Proofs.YtaojgcioljcpmaaGreatDoor
