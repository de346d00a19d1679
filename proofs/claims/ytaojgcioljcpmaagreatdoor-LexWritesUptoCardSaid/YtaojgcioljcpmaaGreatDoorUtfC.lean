/- utf.walk with End's function; Points; End: for every text. -/
import Derived.Test.YtaojgcioljcpmaaGreatDoorUtfB
namespace Go.Proofs.YtaojgcioljcpmaaGreatDoor
open Go.RowKit

/-- a text that is too long -/
theorem walk_long (s : ByteArray) (fv : Value) (w : World) (hs : s.size ≤ maxLen) (hlong : 4000 < s.size) :
    Calls Tryz.prog 48 #[.string s, fv] w fun e w' =>
      e = .returned (.tuple #[.agg #[.int .i64 0, .int .i64 0, .int .i64 0], .agg #[.int .i64 3, .int .i64 0, .int .i64 0, .int .i64 0]]) ∧ Below w.heap.size w w' := by
  unfold maxLen at hs
  have hl : (4000 : Int) < (s.size : Int) := by omega
  go_enter Tryz.func48, Tryz.ntmps48
  go_wp2
  refine bodyPost_ret (v := .tuple #[.agg #[.int .i64 0, .int .i64 0, .int .i64 0], .agg #[.int .i64 3, .int .i64 0, .int .i64 0, .int .i64 0]]) (by simp [results, Tryz.results48, go_sem]) rfl ⟨rfl, ?_⟩
  exact (((Below.refl w.heap.size w).alloc (Nat.le_refl _) _).alloc (by simp) _)

theorem spec_long (l : List UInt8) (h : 4000 < l.length) : U.pts l = [] ∧ U.eE l = 3 ∧ U.eP l = U.zero ∧ U.endP l = U.zero := by
  simp [U.pts, U.eE, U.eP, U.endP, h]

def posV (p : U.Pos) : Value := .agg #[.int .i64 p.a, .int .i64 p.l, .int .i64 p.c]
def diagV (e : Int) (p : U.Pos) : Value := .agg #[.int .i64 e, .int .i64 p.a, .int .i64 p.l, .int .i64 p.c]

def walked (l : List UInt8) : List U.Pt := if 4000 < l.length then [] else (U.all l).1

theorem walk_points_all (s : ByteArray) (Bo : Nat) (w : World) (hs : s.size ≤ maxLen) (hT : Lib.Utf8Tabs 4 5 w) (h2 : (4 + 5 + 1) ≤ Bo)
    (hv : Blk w Bo #[.slice none 0 0] 60) :
    Calls Tryz.prog 48 #[.string s, .func (.func 49) #[] #[.pointer (some ⟨Bo, 0, none⟩)]] w fun e w' =>
      e = .returned (.tuple #[posV (U.endP s.data.toList), diagV (U.eE s.data.toList) (U.eP s.data.toList)]) ∧
      ∃ v', Blk w' Bo #[v'] 60 ∧ w'.ownsRow w.heap.size 86 4 v' (walked s.data.toList).length (ptsCells (walked s.data.toList)) ∧ Below Bo w w' := by
  by_cases hl : 4000 < s.size
  · have hl' : 4000 < s.data.toList.length := by rw [Array.length_toList]; exact hl
    obtain ⟨_, e2, e3, e4⟩ := spec_long s.data.toList hl'
    have e1 : walked s.data.toList = [] := by simp only [walked, if_pos hl']
    rw [e1, e2, e3, e4]
    have hlt := hv.lt
    exact (walk_long s _ w hs hl).mono fun e w' h => ⟨h.1, _, hv.below h.2 hlt, World.ownsRow_nil _ _ _ _, h.2.mono (by omega)⟩
  · have hl' : ¬ 4000 < s.data.toList.length := by rw [Array.length_toList]; exact hl
    have e1 : walked s.data.toList = (U.all s.data.toList).1 := by simp only [walked, if_neg hl']
    rw [e1]
    exact walk_points s Bo w hs hT h2 hv hl

theorem eE_cases (l : List UInt8) : (U.eE l = 0 ∧ U.pts l = walked l ∧ U.eP l = U.zero) ∨ ((U.eE l = 3 ∨ U.eE l = 90) ∧ U.pts l = []) := by
  unfold U.eE U.pts U.eP walked
  by_cases h : 4000 < l.length
  · simp [h]
  · by_cases h' : (U.all l).2.2 = true
    · simp [h, h']
    · simp [h, h']

theorem run_mkfunc (fn : Fn) (first cap : Array Value) (w : World) : (Instr.makeFunc fn first cap).run Tryz.prog w = .ok (.func fn first cap) w := rfl

set_option maxHeartbeats 800000 in
theorem Points_any (s : ByteArray) (w : World) (hs : s.size ≤ maxLen) (hT : Lib.Utf8Tabs 4 5 w) (h2 : (4 + 5 + 1) ≤ w.heap.size) :
    Calls Tryz.prog 31 #[.string s] w fun e w' => ∃ v,
      e = .returned (.tuple #[v, diagV (U.eE s.data.toList) (U.eP s.data.toList)]) ∧ Below w.heap.size w w' ∧ w'.ownsRow w.heap.size 86 4 v (U.pts s.data.toList).length (ptsCells (U.pts s.data.toList)) := by
  have hmf := run_mkfunc
  have hb0 : ∀ o1 o2 : Obj, Below w.heap.size w ((w.alloc o1).alloc o2) := fun o1 o2 => ((Below.refl _ _).alloc (Nat.le_refl _) _).alloc (by simp) _
  have hcases := eE_cases s.data.toList
  obtain ⟨p, hp⟩ : ∃ p, U.endP s.data.toList = p := ⟨_, rfl⟩
  obtain ⟨q, hq⟩ : ∃ q, U.eP s.data.toList = q := ⟨_, rfl⟩
  obtain ⟨z, hz⟩ : ∃ z, U.eE s.data.toList = z := ⟨_, rfl⟩
  obtain ⟨l, hl⟩ : ∃ z, U.pts s.data.toList = z := ⟨_, rfl⟩
  obtain ⟨m, hm⟩ : ∃ z, walked s.data.toList = z := ⟨_, rfl⟩
  have cw := fun (o1 : Obj) => walk_points_all s (w.heap.size + 1) ((w.alloc o1).alloc (.cells #[.slice none 0 0] 60)) hs (tabs_below w.heap.size hT (hb0 _ _) h2) (by omega) (Blk.new _ _ _ _ (by simp))
  rw [hp, hq, hz, hm] at cw
  rw [hz, hl, hm, hq] at hcases
  rw [hz, hl, hq]
  simp only [World.size_alloc] at cw
  unfold posV diagV at cw
  unfold diagV
  have HC := Lib.hid cw
  have HB := Lib.hid hb0
  clear cw hb0 hp hq hz hT hl hm
  rcases hcases with ⟨hz0, hlm, hqz⟩ | ⟨hz0, hlm⟩
  · subst hlm hz0 hqz
    go_enter Tryz.func31, Tryz.ntmps31
    go_wp2_with fail
    refine (HC.out _).mono ?_
    rintro e w1 ⟨rfl, v, hv, hown, hb1⟩
    have hb2 : Below w.heap.size w w1 := (HB.out _ _).trans (hb1.mono (by omega))
    have hlt1 : w.heap.size + 1 < w1.heap.size := hv.lt
    have hlt0 : w.heap.size < w1.heap.size := by omega
    have g1 := (Blk.new w w.heap.size #[.int .i64 0, .int .i64 0, .int .i64 0, .int .i64 0] 31 rfl).alloc (.cells #[.slice none 0 0] 60)
    have k1 := g1.below hb1 (by omega)
    have c20 : w1.cell? ⟨w.heap.size, 0, none⟩ = some (.int .i64 0) := k1.cell 0
    have c21 : w1.cell? ⟨w.heap.size, 1, none⟩ = some (.int .i64 0) := k1.cell 1
    have c22 : w1.cell? ⟨w.heap.size, 2, none⟩ = some (.int .i64 0) := k1.cell 2
    have c23 : w1.cell? ⟨w.heap.size, 3, none⟩ = some (.int .i64 0) := k1.cell 3
    have f20 := k1.free 0; have f21 := k1.free 1; have f22 := k1.free 2; have f23 := k1.free 3
    have cv : w1.cell? ⟨w.heap.size + 1, 0, none⟩ = some v := hv.cell 0
    obtain ⟨oa, cp, hv'⟩ := own_slice hown
    subst hv'
    go_wp2
    refine bodyPost_ret (v := .tuple #[.slice oa l.length cp, .agg #[.int .i64 0, .int .i64 U.zero.a, .int .i64 U.zero.l, .int .i64 U.zero.c]]) (by simp [results, Tryz.results31, go_sem, c20, c21, c22, c23, hlt0]; exact ⟨rfl, rfl, rfl⟩) rfl ⟨_, rfl, ?_, ?_⟩
    · repeat (with_reducible first | exact hb2 | refine Below.drew ?_ | refine Below.setCell ?_ (by simp <;> omega) _ | refine Below.alloc ?_ (by simp <;> omega) _)
    · refine own_base (base := w.heap.size + 1 + 1) ?_ (by omega)
      repeat (with_reducible first | exact hown | refine own_drew ?_ | refine ownsRow_setCell_below ?_ (by simp <;> omega) _ | refine World.ownsRow.alloc ?_ _)
  · subst hlm
    have hz3 : (z == 0) = false := by rw [beq_eq_false_iff_ne]; omega
    have hz4 : (z != 0) = true := by rw [bne_iff_ne]; omega
    have HZ := Lib.hid hz0
    clear hz0
    go_enter Tryz.func31, Tryz.ntmps31
    go_wp2_with fail
    refine (HC.out _).mono ?_
    rintro e w1 ⟨rfl, v, hv, hown, hb1⟩
    have hb2 : Below w.heap.size w w1 := (HB.out _ _).trans (hb1.mono (by omega))
    have hlt1 : w.heap.size + 1 < w1.heap.size := hv.lt
    have hlt0 : w.heap.size < w1.heap.size := by omega
    have g1 := (Blk.new w w.heap.size #[.int .i64 0, .int .i64 0, .int .i64 0, .int .i64 0] 31 rfl).alloc (.cells #[.slice none 0 0] 60)
    have k1 := g1.below hb1 (by omega)
    have c20 : w1.cell? ⟨w.heap.size, 0, none⟩ = some (.int .i64 0) := k1.cell 0
    have c21 : w1.cell? ⟨w.heap.size, 1, none⟩ = some (.int .i64 0) := k1.cell 1
    have c22 : w1.cell? ⟨w.heap.size, 2, none⟩ = some (.int .i64 0) := k1.cell 2
    have c23 : w1.cell? ⟨w.heap.size, 3, none⟩ = some (.int .i64 0) := k1.cell 3
    have f20 := k1.free 0; have f21 := k1.free 1; have f22 := k1.free 2; have f23 := k1.free 3
    have cv : w1.cell? ⟨w.heap.size + 1, 0, none⟩ = some v := hv.cell 0
    obtain ⟨oa, cp, hv'⟩ := own_slice hown
    subst hv'
    go_wp2
    go_region
    all_goals
      go_wp2
      refine bodyPost_ret (v := .tuple #[.slice none 0 0, .agg #[.int .i64 z, .int .i64 q.a, .int .i64 q.l, .int .i64 q.c]]) (by simp [results, Tryz.results31, go_sem, c20, c21, c22, c23, hlt0]) rfl ⟨_, rfl, ?_, ?_⟩
      · repeat (with_reducible first | exact hb2 | refine Below.drew ?_ | refine Below.setCell ?_ (by simp <;> omega) _ | refine Below.alloc ?_ (by simp <;> omega) _)
      · exact World.ownsRow_nil _ _ _ _
end Go.Proofs.YtaojgcioljcpmaaGreatDoor
