/- sync.Once.Do at a replacer that was not built yet; (*strings.Replacer).Replace; strings.NewReplacer. -/
import Derived.Test.YtaojgcioljcpmaaGreatDoorRepD
import Derived.Test.YtaojgcioljcpmaaGreatDoorRepF
import Derived.Laws.NewBlocks
namespace Go.Proofs.YtaojgcioljcpmaaGreatDoor
open Go.RowKit

/-- a fresh replacer: five cells -/
def FreshRep (w : World) (rb A : Nat) : Prop :=
  rb < w.heap.size ∧ w.cell? ⟨rb, 0, none⟩ = some (.int .u32 0) ∧ w.cell? ⟨rb, 1, none⟩ = some (.int .i32 0) ∧ (∃ x, w.cell? ⟨rb, 3, none⟩ = some x) ∧ (∃ C, w.cell? ⟨rb, 4, none⟩ = some (.slice (some ⟨A, 0, none⟩) 8 C)) ∧ (∀ j, w.frozen? ⟨rb, j, none⟩ = false) ∧ StrAt w A pairs ∧ A ≠ rb
theorem StrAt.setOther {w : World} {A : Nat} {l : List (List UInt8)} (h : StrAt w A l) {a : Addr} (ha : a.block ≠ A) (v : Value) : StrAt (w.setCell a v) A l :=
  ⟨by simpa using h.1, fun j x hj => (World.cell?_setCell_other _ _ _ _ (fun e => ha (by rw [e]))).trans (h.2 j x hj)⟩
theorem load_zero (a : Addr) (w : World) (h0 : w.cell? a = some (.int .u32 0)) : Calls Tryz.prog 91 #[.pointer (some a)] w fun e w' => e = .returned (.bool false) ∧ w' = w := by
  have hl := run_call_load (P := Tryz.prog) Tryz.func110 (by kernel_rfl) (by kernel_rfl) (by kernel_rfl) .u32 (by kernel_rfl) h0
  go_enter Tryz.func91, Tryz.ntmps91
  go_wp2
  go_ret
  exact ⟨rfl, rfl⟩
theorem Built.keep {w w' : World} {rb b : Nat} (h : Built w rb b w') (hrb : rb < w.heap.size) (j : Nat) (h3 : j ≠ 3) (h4 : j ≠ 4) : w'.cell? ⟨rb, j, none⟩ = w.cell? ⟨rb, j, none⟩ := by
  obtain ⟨w1, _, hb, rfl⟩ := h
  rw [World.cell?_setCell_other _ _ _ _ (by intro e; have := congrArg Addr.off e; simp at this; omega), World.cell?_setCell_other _ _ _ _ (by intro e; have := congrArg Addr.off e; simp at this; omega)]
  exact hb.cell (p := ⟨rb, j, none⟩) hrb
theorem Built.frozen {w w' : World} {rb b : Nat} (h : Built w rb b w') (hrb : rb < w.heap.size) (j : Nat) : w'.frozen? ⟨rb, j, none⟩ = w.frozen? ⟨rb, j, none⟩ := by
  obtain ⟨w1, _, hb, rfl⟩ := h
  rw [World.frozen?_setCell, World.frozen?_setCell]
  exact hb.frozen (p := ⟨rb, j, none⟩) hrb
set_option maxRecDepth 100000 in
set_option maxHeartbeats 1600000 in
theorem slow_any (rb A : Nat) (w : World) (h : FreshRep w rb A) :
    Calls Tryz.prog 92 #[.pointer (some ⟨rb, 0, none⟩), .func (.func 67) #[.pointer (some ⟨rb, 0, none⟩)] #[]] w fun e w' => e = .returned (.tuple #[]) ∧
      ∃ b w1, Built (w.setCell ⟨rb, 1, none⟩ (.int .i32 1)) rb b w1 ∧ w' = (w1.drew.setCell ⟨rb, 0, none⟩ (.int .u32 1)).setCell ⟨rb, 1, none⟩ (.int .i32 0) := by
  obtain ⟨hrb, h0, h1, ⟨x3, h3⟩, ⟨C, h4⟩, hf, hs, hA⟩ := h
  have HL := Lib.hid (load_zero ⟨rb, 0, none⟩ (w.setCell ⟨rb, 1, none⟩ (.int .i32 1)) ((World.cell?_setCell_other _ ⟨rb, 1, none⟩ ⟨rb, 0, none⟩ _ (by simp)).trans h0))
  have hnot : ∀ (x : Bool) (w : World), (Op.unary .not (.bool x)).run Tryz.prog w = .ok (.bool (!x)) w := fun _ _ => rfl
  have HBO := Lib.hid (buildOnce_any rb A C (w.setCell ⟨rb, 1, none⟩ (.int .i32 1)) x3 ((World.cell?_setCell_other _ ⟨rb, 1, none⟩ ⟨rb, 3, none⟩ _ (by simp)).trans h3) ((World.cell?_setCell_other _ ⟨rb, 1, none⟩ ⟨rb, 4, none⟩ _ (by simp)).trans h4) (by rw [World.frozen?_setCell]; exact hf 3) (by rw [World.frozen?_setCell]; exact hf 4) (by simpa using hrb) (hs.setOther (by exact fun e => hA e.symm) _))
  have HS := Lib.hid hs
  have f1 := hf 1
  clear hs
  go_enter_defers Tryz.func92, Tryz.ntmps92
  go_wp2_with (go_at_call 111; refine (lock_free ⟨rb, 1, none⟩ _ (by go_simp) (by go_simp)).mono ?_; rintro e w' ⟨rfl, rfl⟩)
  go_wp2_with (first | (go_at_call 91; refine HL.out.mono ?_; rintro e w1 ⟨rfl, rfl⟩) | (go_at_call 67; refine HBO.out.mono ?_; rintro e w1 ⟨rfl, b, hbu⟩))
  have hrb' : rb < (w.setCell ⟨rb, 1, none⟩ (.int .i32 1)).heap.size := by simpa using hrb
  have k0 := (hbu.keep hrb' 0 (by decide) (by decide)).trans ((World.cell?_setCell_other _ ⟨rb, 1, none⟩ ⟨rb, 0, none⟩ _ (by simp)).trans h0)
  have k1 := (hbu.keep hrb' 1 (by decide) (by decide)).trans (World.cell?_setCell_same w _ _ h1)
  have z0 : w1.frozen? ⟨rb, 0, none⟩ = false := by rw [hbu.frozen hrb' 0, World.frozen?_setCell]; exact hf 0
  have z1 : w1.frozen? ⟨rb, 1, none⟩ = false := by rw [hbu.frozen hrb' 1, World.frozen?_setCell]; exact hf 1
  have HBU := Lib.hid hbu
  clear hbu
  refine leaves_cons (f := 113) (args := #[.pointer (some ⟨rb, 0, none⟩), .bool true]) (by simp) (by simp [go_sem]) ?_
  refine (store_deferred ⟨rb, 0, none⟩ (.int .u32 0) .returning _ k0 z0).mono ?_
  rintro e u' w'' ⟨rfl, rfl, rfl⟩
  refine leaves_cons (f := 112) (args := #[.pointer (some ⟨rb, 1, none⟩)]) (by simp [settle]) (by simp [go_sem]) ?_
  refine (unlock_deferred ⟨rb, 1, none⟩ _ _ ?_ (by simp [z1])).mono ?_
  · refine (World.cell?_setCell_other _ ⟨rb, 0, none⟩ ⟨rb, 1, none⟩ _ (by simp)).trans ?_
    rw [World.cell?_drew]
    exact k1
  rintro e u' w'' ⟨rfl, rfl, rfl⟩
  simp [Leaves, settle, results, Tryz.results92]
  exact ⟨b, w1, HBU.out, rfl⟩

/-- the replacer in memory, behind the call -/
def RepReady (w : World) (B rb b : Nat) : Prop := RepAt w B b ∧ w.cell? ⟨rb, 3, none⟩ = some (.iface 179 (.pointer (some ⟨b, 0, none⟩))) ∧ w.cell? ⟨rb, 0, none⟩ = some (.int .u32 1)
theorem RepAt.setOther {w : World} {B b rb : Nat} (h : RepAt w B b) (hrb : rb < B) (x : Int) (h0 : w.cell? ⟨rb, 0, none⟩ = some (.int .u32 x)) (j : Nat) (v : Value) : RepAt (w.setCell ⟨rb, j, none⟩ v) B b := by
  obtain ⟨cs, G0, K0, G1, K1, G2, K2, G3, K3, tv, hB, hbl, hc, hl, hown, ⟨hg0, hg1, hg2, hg3⟩, r0, r1, r2, r3⟩ := h
  have ne : ∀ (G : Nat) (y : Int), w.cell? ⟨G, 0, none⟩ = some (.int .u8 y) → ∀ k, (w.setCell ⟨rb, j, none⟩ v).cell? ⟨G, k, none⟩ = w.cell? ⟨G, k, none⟩ := by
    intro G y hy k
    refine World.cell?_setCell_other _ _ _ _ (fun e => ?_)
    have : rb = G := congrArg Addr.block e
    subst this
    rw [h0] at hy
    simp at hy
  refine ⟨cs, G0, K0, G1, K1, G2, K2, G3, K3, tv, hB, Blk.setOther hbl (by show b ≠ rb; omega) v, hc, hl, own_keep hown (fun g hg => heap_setCell_other _ _ _ _ (by have := (hown.lt g hg).1; show g ≠ rb; omega)), ?_, ?_, ?_, ?_, ?_⟩
  · simpa using ⟨hg0, hg1, hg2, hg3⟩
  · rw [ne G0 _ r0.1, ne G0 _ r0.1]; exact r0
  · rw [ne G1 _ r1.1, ne G1 _ r1.1]; exact r1
  · rw [ne G2 _ r2.1, ne G2 _ r2.1]; exact r2
  · rw [ne G3 _ r3.1, ne G3 _ r3.1]; exact r3
theorem done_of {w w1 : World} {rb b A : Nat} (h : FreshRep w rb A) (hb : Built (w.setCell ⟨rb, 1, none⟩ (.int .i32 1)) rb b w1) :
    RepReady ((w1.drew.setCell ⟨rb, 0, none⟩ (.int .u32 1)).setCell ⟨rb, 1, none⟩ (.int .i32 0)) w.heap.size rb b ∧ Below rb w ((w1.drew.setCell ⟨rb, 0, none⟩ (.int .u32 1)).setCell ⟨rb, 1, none⟩ (.int .i32 0)) := by
  obtain ⟨hrb, h0, h1, ⟨x3, h3⟩, ⟨C, h4⟩, hf, hs, hA⟩ := h
  have hrb' : rb < (w.setCell ⟨rb, 1, none⟩ (.int .i32 1)).heap.size := by simpa using hrb
  have k0 := (hb.keep hrb' 0 (by decide) (by decide)).trans ((World.cell?_setCell_other _ ⟨rb, 1, none⟩ ⟨rb, 0, none⟩ _ (by simp)).trans h0)
  obtain ⟨v, hr, hbe, rfl⟩ := hb
  have v0 : v.cell? ⟨rb, 0, none⟩ = some (.int .u32 0) := (hbe.cell (p := ⟨rb, 0, none⟩) hrb').trans ((World.cell?_setCell_other _ ⟨rb, 1, none⟩ ⟨rb, 0, none⟩ _ (by simp)).trans h0)
  have v3 : v.cell? ⟨rb, 3, none⟩ = some x3 := (hbe.cell (p := ⟨rb, 3, none⟩) hrb').trans ((World.cell?_setCell_other _ ⟨rb, 1, none⟩ ⟨rb, 3, none⟩ _ (by simp)).trans h3)
  rw [World.size_setCell] at hr hbe
  obtain ⟨V1, hV1⟩ : ∃ V, v.setCell ⟨rb, 3, none⟩ (.iface 179 (.pointer (some ⟨b, 0, none⟩))) = V := ⟨_, rfl⟩
  have r1 : RepAt V1 w.heap.size b := by rw [← hV1]; exact hr.setOther hrb 0 v0 3 _
  have a0 : V1.cell? ⟨rb, 0, none⟩ = some (.int .u32 0) := by rw [← hV1]; exact (World.cell?_setCell_other _ ⟨rb, 3, none⟩ ⟨rb, 0, none⟩ _ (by simp)).trans v0
  have a3 : V1.cell? ⟨rb, 3, none⟩ = some (.iface 179 (.pointer (some ⟨b, 0, none⟩))) := by rw [← hV1]; exact World.cell?_setCell_same _ _ _ v3
  have hb1 : Below rb w V1 := by
    rw [← hV1]
    exact ((((Below.refl rb w).setCell (Nat.le_refl _) _).trans (hbe.mono (by omega))).setCell (Nat.le_refl _) _)
  rw [hV1] at k0 ⊢
  obtain ⟨V2, hV2⟩ : ∃ V, V1.setCell ⟨rb, 4, none⟩ (.slice none 0 0) = V := ⟨_, rfl⟩
  have r2 : RepAt V2 w.heap.size b := by rw [← hV2]; exact r1.setOther hrb 0 a0 4 _
  have b3 : V2.cell? ⟨rb, 3, none⟩ = some (.iface 179 (.pointer (some ⟨b, 0, none⟩))) := by rw [← hV2]; exact (World.cell?_setCell_other _ ⟨rb, 4, none⟩ ⟨rb, 3, none⟩ _ (by simp)).trans a3
  have hb2 : Below rb w V2.drew := by rw [← hV2]; exact Below.drew (hb1.setCell (Nat.le_refl _) _)
  rw [hV2] at k0 ⊢
  have r2' : RepAt V2.drew w.heap.size b := r2
  have c0 : V2.drew.cell? ⟨rb, 0, none⟩ = some (.int .u32 0) := k0
  have c3 : V2.drew.cell? ⟨rb, 3, none⟩ = _ := b3
  have r3 := r2'.setOther hrb 0 c0 0 (.int .u32 1)
  have d0 := World.cell?_setCell_same V2.drew _ (.int .u32 1) c0
  refine ⟨⟨r3.setOther hrb 1 d0 1 _, ?_, ?_⟩, (hb2.setCell (Nat.le_refl _) _).setCell (Nat.le_refl _) _⟩
  · exact (World.cell?_setCell_other _ ⟨rb, 1, none⟩ ⟨rb, 3, none⟩ _ (by simp)).trans ((World.cell?_setCell_other _ ⟨rb, 0, none⟩ ⟨rb, 3, none⟩ _ (by simp)).trans c3)
  · exact (World.cell?_setCell_other _ ⟨rb, 1, none⟩ ⟨rb, 0, none⟩ _ (by simp)).trans d0

theorem do_first (rb A : Nat) (w : World) (h : FreshRep w rb A) :
    Calls Tryz.prog 66 #[.pointer (some ⟨rb, 0, none⟩), .func (.func 67) #[.pointer (some ⟨rb, 0, none⟩)] #[]] w fun e w' => e = .returned (.tuple #[]) ∧ ∃ b, RepReady w' w.heap.size rb b ∧ Below rb w w' := by
  have HL := Lib.hid (load_zero ⟨rb, 0, none⟩ w h.2.1)
  have hnot : ∀ (x : Bool) (w : World), (Op.unary .not (.bool x)).run Tryz.prog w = .ok (.bool (!x)) w := fun _ _ => rfl
  have HS := Lib.hid (slow_any rb A w h)
  have HF := Lib.hid h
  clear h
  go_enter Tryz.func66, Tryz.ntmps66
  go_wp2_with (first | (go_at_call 91; refine HL.out.mono ?_; rintro e w1 ⟨rfl, rfl⟩) | (go_at_call 92; refine HS.out.mono ?_; rintro e w1 ⟨rfl, b, v, hbu, rfl⟩))
  go_end0
  exact ⟨rfl, b, done_of HF.out hbu⟩

set_option maxRecDepth 100000 in
theorem replace_any (rb A : Nat) (w : World) (h : FreshRep w rb A) (s : ByteArray) (hs : s.size ≤ 1048576) :
    Calls Tryz.prog 43 #[.pointer (some ⟨rb, 0, none⟩), .string s] w fun e w' => e = .returned (.string ⟨(s.data.toList.flatMap T.esc).toArray⟩) ∧ Below rb w w' := by
  have HS := Lib.hid (do_first rb A w h)
  have hmf : ∀ (fn : Fn) (first cap : Array Value) (w : World), (Instr.makeFunc fn first cap).run Tryz.prog w = .ok (.func fn first cap) w := fun _ _ _ _ => rfl
  have hrb := h.1
  obtain ⟨x0, h0⟩ : ∃ x0, w.cell? ⟨rb, 0, none⟩ = some x0 := ⟨_, h.2.1⟩
  have hr0 := fun (W : World) (b B : Nat) (hr : RepAt W B b) => brep_any b B s W hr hs
  have HR := Lib.hid hr0
  clear hr0
  have hm : ∀ (n b : Nat) (w : World), (method (n + 1) 179 (.pointer (some ⟨b, 0, none⟩)) "Replace").run Tryz.prog w = .ok (177, .pointer (some ⟨b, 0, none⟩)) w := fun _ _ _ => by kernel_rfl
  clear h hs
  go_enter Tryz.func43, Tryz.ntmps43
  go_wp2_with (first | (go_at_call 66; refine HS.out.mono ?_; rintro e w1 ⟨rfl, b, ⟨hr, c3, c0⟩, hbe⟩; have HBE := Lib.hid hbe; have HRR := Lib.hid hr; have hsz := hbe.size; clear hbe hr) | (go_at_call 177; refine (HR.out w1 b _ HRR.out).mono ?_; rintro e w2 ⟨rfl, hb2⟩))
  go_ret
  exact ⟨rfl, HBE.out.trans (hb2.mono (by omega))⟩
end Go.Proofs.YtaojgcioljcpmaaGreatDoor
