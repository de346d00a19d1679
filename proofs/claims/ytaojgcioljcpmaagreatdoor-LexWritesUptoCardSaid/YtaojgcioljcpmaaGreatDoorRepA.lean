/- A strings.Replacer of four pairs in memory: plain facts on its table. -/
import Derived.Test.YtaojgcioljcpmaaGreatDoorLexM
import Derived.Deep.WholeRow
namespace Go.Proofs.YtaojgcioljcpmaaGreatDoor
open Go.RowKit

theorem zeros_rep : Tryz.zeroCells178.toList = List.replicate 257 (Value.slice none 0 0) := by kernel_rfl
theorem repZ_len (v : Value) : (Tryz.zeroCells178.toList.set 256 v).length = 257 := by
  rw [List.length_set, zeros_rep, List.length_replicate]
theorem repZ_one (v : Value) (h : v.oneCell' = true) : ∀ x ∈ Tryz.zeroCells178.toList.set 256 v, x.oneCell' = true := by
  intro x hx
  rcases List.mem_or_eq_of_mem_set hx with h1 | h1
  · rw [zeros_rep] at h1
    rw [(List.mem_replicate.1 h1).2]; rfl
  · rw [h1]; exact h
theorem repZ_at (v : Value) (i : Nat) (h : i < 256) : (Tryz.zeroCells178.toList.set 256 v)[i]? = some (.slice none 0 0) := by
  rw [List.getElem?_set_ne (by omega), zeros_rep, List.getElem?_replicate, if_pos (by omega)]
theorem repZ_last (v : Value) : (Tryz.zeroCells178.toList.set 256 v)[256]? = some v := by
  rw [List.getElem?_set_self (by rw [zeros_rep, List.length_replicate]; omega)]
theorem run_storeRep (W : World) (v : Value) (h : v.oneCell' = true) (s : Nat) (hs : W.heap.size = s) :
    Sem.run Tryz.prog (storeCells ⟨s, 0, none⟩ (Tryz.zeroCells178.toList.set 256 v) 0) (W.alloc (.cells Tryz.zeroCells178 178)) = .ok () (W.alloc (.cells (Tryz.zeroCells178.toList.set 256 v).toArray 178)) := by
  subst hs
  have := run_storeCells_new (P := Tryz.prog) W 178 Tryz.zeroCells178 (Tryz.zeroCells178.toList.set 256 v).toArray (by rw [List.size_toArray, repZ_len]; kernel_rfl) (by show Tryz.zeroCells178.toList.length = (Tryz.zeroCells178.toList.set 256 v).length; rw [List.length_set]) (by rw [Array.all_eq_true']; intro x hx; exact repZ_one v h x (by simpa using hx))
  exact this
end Go.Proofs.YtaojgcioljcpmaaGreatDoor
