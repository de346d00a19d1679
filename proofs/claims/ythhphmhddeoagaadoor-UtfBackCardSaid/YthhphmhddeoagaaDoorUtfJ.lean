/- The contract of known: the chapter's rows hold. -/
import Derived.Test.YthhphmhddeoagaaDoorUtfI
namespace Go.Proofs.YthhphmhddeoagaaDoor
open Go.RowKit

theorem known_p0 (W : World) (hT : Lib.Utf8Tabs 0 1 W) (h2 : 2 ≤ W.heap.size) :
    Calls Tryd.prog 9 #[.string ⟨#[97]⟩] W fun e w' => ∃ v, e = .returned (.tuple #[v, .agg #[.int .i64 0, .int .i64 0, .int .i64 0, .int .i64 0]]) ∧ Below W.heap.size W w' ∧ w'.ownsRow W.heap.size 42 4 v 1 (ptsCells [(⟨97, ⟨0, 1, 1⟩⟩ : U.Pt)]) := by
  have h := Points_any ⟨#[97]⟩ W (by decide) hT h2
  have e1 : U.eE [97] = 0 := by decide +kernel
  have e2 : U.eP [97] = ⟨0, 0, 0⟩ := by rfl
  have e3 : U.pts [97] = [(⟨97, ⟨0, 1, 1⟩⟩ : U.Pt)] := by rfl
  simp only [e1, e2, e3] at h
  exact h

theorem known_p1 (W : World) (hT : Lib.Utf8Tabs 0 1 W) (h2 : 2 ≤ W.heap.size) :
    Calls Tryd.prog 9 #[.string ⟨#[97, 195]⟩] W fun e w' => ∃ v, e = .returned (.tuple #[v, .agg #[.int .i64 90, .int .i64 1, .int .i64 1, .int .i64 2]]) ∧ Below W.heap.size W w' ∧ w'.ownsRow W.heap.size 42 4 v 0 (ptsCells []) := by
  have h := Points_any ⟨#[97, 195]⟩ W (by decide) hT h2
  have e1 : U.eE [97, 195] = 90 := by decide +kernel
  have e2 : U.eP [97, 195] = ⟨1, 1, 2⟩ := by rfl
  have e3 : U.pts [97, 195] = [] := by rfl
  simp only [e1, e2, e3] at h
  exact h

theorem known_p2 (W : World) (hT : Lib.Utf8Tabs 0 1 W) (h2 : 2 ≤ W.heap.size) :
    Calls Tryd.prog 9 #[.string ⟨#[192, 128]⟩] W fun e w' => ∃ v, e = .returned (.tuple #[v, .agg #[.int .i64 90, .int .i64 0, .int .i64 1, .int .i64 1]]) ∧ Below W.heap.size W w' ∧ w'.ownsRow W.heap.size 42 4 v 0 (ptsCells []) := by
  have h := Points_any ⟨#[192, 128]⟩ W (by decide) hT h2
  have e1 : U.eE [192, 128] = 90 := by decide +kernel
  have e2 : U.eP [192, 128] = ⟨0, 1, 1⟩ := by rfl
  have e3 : U.pts [192, 128] = [] := by rfl
  simp only [e1, e2, e3] at h
  exact h

theorem known_p3 (W : World) (hT : Lib.Utf8Tabs 0 1 W) (h2 : 2 ≤ W.heap.size) :
    Calls Tryd.prog 9 #[.string ⟨#[237, 160, 128]⟩] W fun e w' => ∃ v, e = .returned (.tuple #[v, .agg #[.int .i64 90, .int .i64 0, .int .i64 1, .int .i64 1]]) ∧ Below W.heap.size W w' ∧ w'.ownsRow W.heap.size 42 4 v 0 (ptsCells []) := by
  have h := Points_any ⟨#[237, 160, 128]⟩ W (by decide) hT h2
  have e1 : U.eE [237, 160, 128] = 90 := by decide +kernel
  have e2 : U.eP [237, 160, 128] = ⟨0, 1, 1⟩ := by rfl
  have e3 : U.pts [237, 160, 128] = [] := by rfl
  simp only [e1, e2, e3] at h
  exact h

theorem known_end (W : World) (hT : Lib.Utf8Tabs 0 1 W) (h2 : 2 ≤ W.heap.size) :
    Calls Tryd.prog 10 #[.string ⟨#[97, 10, 98]⟩] W fun e w' => e = .returned (.tuple #[.agg #[.int .i64 3, .int .i64 2, .int .i64 2], .agg #[.int .i64 0, .int .i64 0, .int .i64 0, .int .i64 0]]) ∧ Below W.heap.size W w' := by
  have h := End_any ⟨#[97, 10, 98]⟩ W (by decide) hT h2
  have e1 : U.eE [97, 10, 98] = 0 := by decide +kernel
  have e2 : U.eP [97, 10, 98] = ⟨0, 0, 0⟩ := by rfl
  have e3 : U.endP [97, 10, 98] = ⟨3, 2, 2⟩ := by rfl
  simp only [e1, e2, e3] at h
  exact h

theorem known_put0 (W : World) (b : Nat) (hb : b = W.heap.size) :
    Calls Tryd.prog 13 #[.slice (some ⟨b, 0, none⟩) 3 3] (W.alloc (.cells #[.int .i32 228, .int .i32 8364, .int .i32 119070] 21)) fun e w' => e = .returned (.tuple #[.string ⟨#[195, 164, 226, 130, 172, 240, 157, 132, 158]⟩, .int .i64 0]) ∧ Below (W.heap.size + 1) (W.alloc (.cells #[.int .i32 228, .int .i32 8364, .int .i32 119070] 21)) w' := by
  subst hb
  have h := Put_any (.slice (some ⟨W.heap.size, 0, none⟩) 3 3) [228, 8364, 119070] (W.alloc (.cells #[.int .i32 228, .int .i32 8364, .int .i32 119070] 21)) (by decide) ⟨rfl, by decide, .inr ⟨W.heap.size, 0, 3, rfl, by simp, by decide, fun j u hj => by
    have := cells_new W W.heap.size (i32Cells [228, 8364, 119070]) 21 rfl j u hj
    have hadd : (⟨W.heap.size, 0, none⟩ : Addr).add j = ⟨W.heap.size, 0 + j, none⟩ := by unfold Addr.add; split <;> simp_all
    rwa [hadd] at this⟩⟩
  have e1 : U.putE [228, 8364, 119070] = 0 := by decide +kernel
  have e2 : U.putB [228, 8364, 119070] = ⟨#[195, 164, 226, 130, 172, 240, 157, 132, 158]⟩ := by decide +kernel
  rw [e1, e2] at h
  simpa using h

theorem known_put1 (W : World) (b : Nat) (hb : b = W.heap.size) :
    Calls Tryd.prog 13 #[.slice (some ⟨b, 0, none⟩) 1 1] (W.alloc (.cells #[.int .i32 55296] 21)) fun e w' => e = .returned (.tuple #[.string ⟨#[]⟩, .int .i64 2]) ∧ Below (W.heap.size + 1) (W.alloc (.cells #[.int .i32 55296] 21)) w' := by
  subst hb
  have h := Put_any (.slice (some ⟨W.heap.size, 0, none⟩) 1 1) [55296] (W.alloc (.cells #[.int .i32 55296] 21)) (by decide) ⟨rfl, by decide, .inr ⟨W.heap.size, 0, 1, rfl, by simp, by decide, fun j u hj => by
    have := cells_new W W.heap.size (i32Cells [55296]) 21 rfl j u hj
    have hadd : (⟨W.heap.size, 0, none⟩ : Addr).add j = ⟨W.heap.size, 0 + j, none⟩ := by unfold Addr.add; split <;> simp_all
    rwa [hadd] at this⟩⟩
  have e1 : U.putE [55296] = 2 := by decide +kernel
  have e2 : U.putB [55296] = ⟨#[]⟩ := by decide +kernel
  rw [e1, e2] at h
  simpa using h

theorem known_put2 (W : World) (b : Nat) (hb : b = W.heap.size) :
    Calls Tryd.prog 13 #[.slice (some ⟨b, 0, none⟩) 1 1] (W.alloc (.cells #[.int .i32 (-1)] 21)) fun e w' => e = .returned (.tuple #[.string ⟨#[]⟩, .int .i64 2]) ∧ Below (W.heap.size + 1) (W.alloc (.cells #[.int .i32 (-1)] 21)) w' := by
  subst hb
  have h := Put_any (.slice (some ⟨W.heap.size, 0, none⟩) 1 1) [-1] (W.alloc (.cells #[.int .i32 (-1)] 21)) (by decide) ⟨rfl, by decide, .inr ⟨W.heap.size, 0, 1, rfl, by simp, by decide, fun j u hj => by
    have := cells_new W W.heap.size (i32Cells [-1]) 21 rfl j u hj
    have hadd : (⟨W.heap.size, 0, none⟩ : Addr).add j = ⟨W.heap.size, 0 + j, none⟩ := by unfold Addr.add; split <;> simp_all
    rwa [hadd] at this⟩⟩
  have e1 : U.putE [-1] = 2 := by decide +kernel
  have e2 : U.putB [-1] = ⟨#[]⟩ := by decide +kernel
  rw [e1, e2] at h
  simpa using h

theorem known_put3 (W : World) (b : Nat) (hb : b = W.heap.size) :
    Calls Tryd.prog 13 #[.slice (some ⟨b, 0, none⟩) 1 1] (W.alloc (.cells #[.int .i32 1114112] 21)) fun e w' => e = .returned (.tuple #[.string ⟨#[]⟩, .int .i64 2]) ∧ Below (W.heap.size + 1) (W.alloc (.cells #[.int .i32 1114112] 21)) w' := by
  subst hb
  have h := Put_any (.slice (some ⟨W.heap.size, 0, none⟩) 1 1) [1114112] (W.alloc (.cells #[.int .i32 1114112] 21)) (by decide) ⟨rfl, by decide, .inr ⟨W.heap.size, 0, 1, rfl, by simp, by decide, fun j u hj => by
    have := cells_new W W.heap.size (i32Cells [1114112]) 21 rfl j u hj
    have hadd : (⟨W.heap.size, 0, none⟩ : Addr).add j = ⟨W.heap.size, 0 + j, none⟩ := by unfold Addr.add; split <;> simp_all
    rwa [hadd] at this⟩⟩
  have e1 : U.putE [1114112] = 2 := by decide +kernel
  have e2 : U.putB [1114112] = ⟨#[]⟩ := by decide +kernel
  rw [e1, e2] at h
  simpa using h

set_option maxHeartbeats 2000000 in
set_option maxRecDepth 100000 in
theorem known_any (w : World) (hT : Lib.Utf8Tabs 0 1 w) (h2 : 2 ≤ w.heap.size) :
    Calls Tryd.prog 8 #[] w fun e w' => e = .returned (.bool true) ∧ Below w.heap.size w w' := by
  have HT := Lib.hid hT
  clear hT
  go_enter Tryd.func8, Tryd.ntmps8
  go_wp2_with fail
  refine (known_p0 w HT.out h2).mono ?_
  rintro e w1 ⟨v1, rfl, hb1, own1⟩
  obtain ⟨g1, cp1, rfl, hg1, hr1⟩ : ∃ g cp, v1 = .slice (some ⟨g, 0, none⟩) 1 cp ∧ g < w1.heap.size ∧ ∀ j u, (ptsCells [(⟨97, ⟨0, 1, 1⟩⟩ : U.Pt)])[j]? = some u → w1.cell? ⟨g, 0 + j, none⟩ = some u := by
    rcases own1.2 with ⟨_, h⟩ | ⟨g, cap, cur, rfl, _⟩
    · cases h
    · refine ⟨g, cap, rfl, (own1.lt g rfl).2, fun j u hj => ?_⟩
      have := own1.cells (g := g) rfl j u hj
      have hadd : (⟨g, 0, none⟩ : Addr).add j = ⟨g, 0 + j, none⟩ := by unfold Addr.add; split <;> simp_all
      rwa [hadd] at this
  clear own1
  have HR1 := Lib.hid hr1
  clear hr1
  have s1 := hb1.size
  go_wp2_with fail
  have hbw1 : Below w.heap.size w w1 := hb1
  have x1 : Below w.heap.size w (w1.alloc (.cells #[.int .i64 0, .int .i64 0, .int .i64 0, .int .i64 0] 28)) := hbw1.alloc s1 _
  refine (known_end _ (tabs_below w.heap.size HT.out x1 h2) (by simp; omega)).mono ?_
  rintro e w2 ⟨rfl, hb2⟩
  have y2 : Below w.heap.size w w2 := below_call x1 hb2
  have s2 := hb2.size
  simp only [World.size_alloc] at s2
  have a1_2 : Blk w2 w1.heap.size #[.int .i64 0, .int .i64 0, .int .i64 0, .int .i64 0] 28 := (Blk.new w1 w1.heap.size _ _ rfl).below hb2 (by simp)
  have HR2 := Lib.hid (fun j u hj => (hb2.cell (p := ⟨g1, 0 + j, none⟩) (by simp; omega)).trans ((World.cell?_alloc_past _ _ _ hg1).trans (HR1.out j u hj)))
  go_wp2_with fail
  refine (known_put0 _ _ (by simp)).mono ?_
  rintro e w3 ⟨rfl, hb3⟩
  have s3 := hb3.size
  simp only [World.size_alloc] at s3 hb3
  have y3 : Below w.heap.size w w3 := (((y2.alloc (by omega) _).alloc (by simp; omega) _).alloc (by simp; omega) _).trans (hb3.mono (by omega))
  have a1_3 : Blk w3 w1.heap.size #[.int .i64 0, .int .i64 0, .int .i64 0, .int .i64 0] 28 := (((a1_2.alloc _).alloc _).alloc _).below hb3 (by omega)
  have p2_3 : Blk w3 w2.heap.size #[.int .i64 3, .int .i64 2, .int .i64 2] 26 := (((Blk.new w2 _ _ _ rfl).alloc _).alloc _).below hb3 (by omega)
  have d2_3 : Blk w3 (w2.heap.size + 1) #[.int .i64 0, .int .i64 0, .int .i64 0, .int .i64 0] 28 := ((Blk.new _ _ _ _ (by simp)).alloc _).below hb3 (by omega)
  have hg2 : g1 < w2.heap.size := by omega
  have hg3 : ∀ j u, (ptsCells [(⟨97, ⟨0, 1, 1⟩⟩ : U.Pt)])[j]? = some u → w3.cell? ⟨g1, 0 + j, none⟩ = some u := fun j u hj => (hb3.cell (p := ⟨g1, 0 + j, none⟩) (show g1 < _ by omega)).trans ((World.cell?_alloc_past _ _ _ (by simp; omega)).trans ((World.cell?_alloc_past _ _ _ (by simp; omega)).trans ((World.cell?_alloc_past _ _ _ hg2).trans (HR2.out j u hj))))
  have e0 : w3.cell? ⟨g1, 0, none⟩ = some (.int .i32 97) := hg3 0 _ rfl
  have e1 : w3.cell? ⟨g1, 1, none⟩ = some (.int .i64 0) := hg3 1 _ rfl
  have e2 : w3.cell? ⟨g1, 2, none⟩ = some (.int .i64 1) := hg3 2 _ rfl
  have e3 : w3.cell? ⟨g1, 3, none⟩ = some (.int .i64 1) := hg3 3 _ rfl
  clear hg3
  have ca0 : w3.cell? ⟨w1.heap.size, 0, none⟩ = some (.int .i64 0) := a1_3.cell 0
  have ca1 : w3.cell? ⟨w1.heap.size, 1, none⟩ = some (.int .i64 0) := a1_3.cell 1
  have ca2 : w3.cell? ⟨w1.heap.size, 2, none⟩ = some (.int .i64 0) := a1_3.cell 2
  have ca3 : w3.cell? ⟨w1.heap.size, 3, none⟩ = some (.int .i64 0) := a1_3.cell 3
  have cp0 : w3.cell? ⟨w2.heap.size, 0, none⟩ = some (.int .i64 3) := p2_3.cell 0
  have cp1 : w3.cell? ⟨w2.heap.size, 1, none⟩ = some (.int .i64 2) := p2_3.cell 1
  have cp2 : w3.cell? ⟨w2.heap.size, 2, none⟩ = some (.int .i64 2) := p2_3.cell 2
  have cd0 : w3.cell? ⟨w2.heap.size + 1, 0, none⟩ = some (.int .i64 0) := d2_3.cell 0
  have cd1 : w3.cell? ⟨w2.heap.size + 1, 1, none⟩ = some (.int .i64 0) := d2_3.cell 1
  have cd2 : w3.cell? ⟨w2.heap.size + 1, 2, none⟩ = some (.int .i64 0) := d2_3.cell 2
  have cd3 : w3.cell? ⟨w2.heap.size + 1, 3, none⟩ = some (.int .i64 0) := d2_3.cell 3
  go_wp2_with fail
  have z4 : Below w.heap.size w w3 := y3
  refine (known_p1 _ (tabs_below w.heap.size HT.out z4 h2) (by omega)).mono ?_
  rintro e w4 ⟨v4, rfl, hb4, own4⟩
  obtain ⟨oa4, cp4, hv4⟩ := own_slice own4
  subst hv4
  clear own4
  have y4 : Below w.heap.size w w4 := below_call z4 hb4
  have s4 := hb4.size
  go_wp2_with fail
  have z5 : Below w.heap.size w (w4.alloc (.cells #[.int .i64 90, .int .i64 1, .int .i64 1, .int .i64 2] 28)) := y4.alloc (by omega) _
  refine (known_p2 _ (tabs_below w.heap.size HT.out z5 h2) (by simp; omega)).mono ?_
  rintro e w5 ⟨v5, rfl, hb5, own5⟩
  obtain ⟨oa5, cp5, hv5⟩ := own_slice own5
  subst hv5
  clear own5
  have y5 : Below w.heap.size w w5 := below_call z5 hb5
  have s5 := hb5.size
  simp only [World.size_alloc] at s5
  have h4_5 : Blk w5 w4.heap.size #[.int .i64 90, .int .i64 1, .int .i64 1, .int .i64 2] 28 := (Blk.new w4 _ _ _ rfl).below hb5 (by simp)
  go_wp2_with fail
  have z6 : Below w.heap.size w (w5.alloc (.cells #[.int .i64 90, .int .i64 0, .int .i64 1, .int .i64 1] 28)) := y5.alloc (by omega) _
  refine (known_p3 _ (tabs_below w.heap.size HT.out z6 h2) (by simp; omega)).mono ?_
  rintro e w6 ⟨v6, rfl, hb6, own6⟩
  obtain ⟨oa6, cp6, hv6⟩ := own_slice own6
  subst hv6
  clear own6
  have y6 : Below w.heap.size w w6 := below_call z6 hb6
  have s6 := hb6.size
  simp only [World.size_alloc] at s6
  have h4_6 : Blk w6 w4.heap.size #[.int .i64 90, .int .i64 1, .int .i64 1, .int .i64 2] 28 := (h4_5.alloc _).below hb6 (by simp; omega)
  have h5_6 : Blk w6 w5.heap.size #[.int .i64 90, .int .i64 0, .int .i64 1, .int .i64 1] 28 := (Blk.new w5 _ _ _ rfl).below hb6 (by simp)
  go_wp2_with fail
  refine (known_put1 _ _ (by simp)).mono ?_
  rintro e w7 ⟨rfl, hb7⟩
  have s7 := hb7.size
  simp only [World.size_alloc] at s7 hb7
  have y7 : Below w.heap.size w w7 := ((y6.alloc (by omega) _).alloc (by simp; omega) _).trans (hb7.mono (by omega))
  have h4_7 : Blk w7 w4.heap.size #[.int .i64 90, .int .i64 1, .int .i64 1, .int .i64 2] 28 := ((h4_6.alloc _).alloc _).below hb7 (by omega)
  have h5_7 : Blk w7 w5.heap.size #[.int .i64 90, .int .i64 0, .int .i64 1, .int .i64 1] 28 := ((h5_6.alloc _).alloc _).below hb7 (by omega)
  have h6_7 : Blk w7 w6.heap.size #[.int .i64 90, .int .i64 0, .int .i64 1, .int .i64 1] 28 := ((Blk.new w6 _ _ _ rfl).alloc _).below hb7 (by omega)
  go_wp2_with fail
  refine (known_put2 _ _ rfl).mono ?_
  rintro e w8 ⟨rfl, hb8⟩
  have s8 := hb8.size
  simp only [World.size_alloc] at s8 hb8
  have y8 : Below w.heap.size w w8 := (y7.alloc (by omega) _).trans (hb8.mono (by omega))
  have h4_8 : Blk w8 w4.heap.size #[.int .i64 90, .int .i64 1, .int .i64 1, .int .i64 2] 28 := (h4_7.alloc _).below hb8 (by omega)
  have h5_8 : Blk w8 w5.heap.size #[.int .i64 90, .int .i64 0, .int .i64 1, .int .i64 1] 28 := (h5_7.alloc _).below hb8 (by omega)
  have h6_8 : Blk w8 w6.heap.size #[.int .i64 90, .int .i64 0, .int .i64 1, .int .i64 1] 28 := (h6_7.alloc _).below hb8 (by omega)
  go_wp2_with fail
  refine (known_put3 _ _ rfl).mono ?_
  rintro e w9 ⟨rfl, hb9⟩
  have s9 := hb9.size
  simp only [World.size_alloc] at s9 hb9
  have y9 : Below w.heap.size w w9 := (y8.alloc (by omega) _).trans (hb9.mono (by omega))
  have h4_9 : Blk w9 w4.heap.size #[.int .i64 90, .int .i64 1, .int .i64 1, .int .i64 2] 28 := (h4_8.alloc _).below hb9 (by omega)
  have h5_9 : Blk w9 w5.heap.size #[.int .i64 90, .int .i64 0, .int .i64 1, .int .i64 1] 28 := (h5_8.alloc _).below hb9 (by omega)
  have h6_9 : Blk w9 w6.heap.size #[.int .i64 90, .int .i64 0, .int .i64 1, .int .i64 1] 28 := (h6_8.alloc _).below hb9 (by omega)
  have qh40 : w9.cell? ⟨w4.heap.size, 0, none⟩ = some (.int .i64 90) := h4_9.cell 0
  have qh41 : w9.cell? ⟨w4.heap.size, 1, none⟩ = some (.int .i64 1) := h4_9.cell 1
  have qh42 : w9.cell? ⟨w4.heap.size, 2, none⟩ = some (.int .i64 1) := h4_9.cell 2
  have qh43 : w9.cell? ⟨w4.heap.size, 3, none⟩ = some (.int .i64 2) := h4_9.cell 3
  have lh4 : w4.heap.size < w9.heap.size := h4_9.lt
  have qh50 : w9.cell? ⟨w5.heap.size, 0, none⟩ = some (.int .i64 90) := h5_9.cell 0
  have qh51 : w9.cell? ⟨w5.heap.size, 1, none⟩ = some (.int .i64 0) := h5_9.cell 1
  have qh52 : w9.cell? ⟨w5.heap.size, 2, none⟩ = some (.int .i64 1) := h5_9.cell 2
  have qh53 : w9.cell? ⟨w5.heap.size, 3, none⟩ = some (.int .i64 1) := h5_9.cell 3
  have lh5 : w5.heap.size < w9.heap.size := h5_9.lt
  have qh60 : w9.cell? ⟨w6.heap.size, 0, none⟩ = some (.int .i64 90) := h6_9.cell 0
  have qh61 : w9.cell? ⟨w6.heap.size, 1, none⟩ = some (.int .i64 0) := h6_9.cell 1
  have qh62 : w9.cell? ⟨w6.heap.size, 2, none⟩ = some (.int .i64 1) := h6_9.cell 2
  have qh63 : w9.cell? ⟨w6.heap.size, 3, none⟩ = some (.int .i64 1) := h6_9.cell 3
  have lh6 : w6.heap.size < w9.heap.size := h6_9.lt
  go_wp2_with fail
  go_ret
  exact ⟨rfl, y9.alloc (by omega) _⟩
end Go.Proofs.YthhphmhddeoagaaDoor
