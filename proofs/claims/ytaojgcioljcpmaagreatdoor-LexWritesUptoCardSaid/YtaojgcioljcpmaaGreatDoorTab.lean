/- The library's tables that lexing reads: they lie below what a call makes, and stand. -/
import Derived.Test.YtaojgcioljcpmaaGreatDoorUtfB
import Derived.Lib.LaidTab
import Derived.Lib.LaidU8T
namespace Go.Proofs.YtaojgcioljcpmaaGreatDoor
open Go.RowKit

/-- a world that holds the tables -/
structure TabsIn (w : World) : Prop where
  space : Lib.TabIs Tryz.prog w "strings.asciiSpace" .u8 Lib.asciiSpaceTab
  white : Lib.WhiteTab 1 w
  utf : Lib.Utf8Tabs 4 5 w
  size : (4 + 5 + 1) ≤ w.heap.size
  pow : Lib.TabIs Tryz.prog w "internal/strconv.uint64pow10" .u64 Lib.pow10Tab
  esyn : ∃ tp p, w.var? Tryz.prog "strconv.ErrSyntax" = some #[.iface tp p]
  eran : ∃ tp p, w.var? Tryz.prog "strconv.ErrRange" = some #[.iface tp p]

/-- a world behind one that holds the tables: what lay below G stands -/
def Tabs (G : Nat) (w : World) : Prop := ∃ w0, w0.heap.size = G ∧ TabsIn w0 ∧ Below G w0 w
theorem Tabs.of {w : World} (h : TabsIn w) : Tabs w.heap.size w := ⟨w, rfl, h, Below.refl _ _⟩
theorem Tabs.below {G : Nat} {w w' : World} (h : Tabs G w) (hb : Below G w w') : Tabs G w' := by
  obtain ⟨w0, h0, h1, h2⟩ := h
  exact ⟨w0, h0, h1, h2.trans hb⟩
theorem Tabs.le {G : Nat} {w : World} (h : Tabs G w) : G ≤ w.heap.size := by
  obtain ⟨w0, h0, h1, h2⟩ := h
  rw [← h0]; exact h2.size
theorem var_below {w w' : World} {name : String} {cs : Array Value} (h : w.var? Tryz.prog name = some cs) (hb : Below w.heap.size w w') : w'.var? Tryz.prog name = some cs := by
  unfold World.var? at h ⊢
  cases hg : Tryz.prog.globalNamed name with
  | none => rw [hg] at h; cases h
  | some g =>
    rw [hg] at h
    simp only [Option.bind_some] at h ⊢
    have hlt : g < w.heap.size := by
      rcases Nat.lt_or_ge g w.heap.size with h' | h'
      · exact h'
      · rw [Array.getElem?_eq_none h'] at h; cases h
    rw [hb.block g hlt]
    exact h
theorem Tabs.now {G : Nat} {w : World} (h : Tabs G w) : TabsIn w := by
  obtain ⟨w0, h0, h1, h2⟩ := h
  subst h0
  have hs := h2.size
  have hz := h1.size
  obtain ⟨tp, p, hsy⟩ := h1.esyn
  obtain ⟨tp', p', hra⟩ := h1.eran
  exact ⟨var_below h1.space h2, WhiteTab_below h1.white h2, tabs_below _ h1.utf h2 hz, by omega, var_below h1.pow h2, ⟨tp, p, var_below hsy h2⟩, ⟨tp', p', var_below hra h2⟩⟩
end Go.Proofs.YtaojgcioljcpmaaGreatDoor
