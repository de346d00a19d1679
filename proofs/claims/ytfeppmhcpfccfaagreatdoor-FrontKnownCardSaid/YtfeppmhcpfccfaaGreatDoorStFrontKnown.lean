/- FrontKnown: the tables that the run reads stand where its listed variables are laid; a world where all of them are laid. -/
import Derived.Test.YtfeppmhcpfccfaaGreatDoorTabs
set_option linter.unusedVariables false
set_option linter.unusedSimpArgs false
namespace Go.Proofs.YtfeppmhcpfccfaaGreatDoor.frontKnown
open Go Go.ChangeShapes Go.WideShapes Go.ChangeAt Go.RowKit Go.Lib Go.Shelf

theorem stand_of {W : World} (hL : laidMet Tryz.prog Rows.frontKnownRow.laid W) : Fast.StandT tabs W := by
  have h2 := Lib.laidMet.reads hL (.tail _ (.tail _ (.tail _ (.tail _ (.tail _ (.tail _ (.head _)))))))
  have h7 := Lib.laidMet.reads hL (.tail _ (.tail _ (.head _)))
  rw [space_eq] at h7
  rw [pow_eq] at h2
  intro t ht
  rcases List.mem_cons.1 ht with rfl | ht
  · exact tabIs_of_var (g := 4) (t := ((Tryz.prog.globals[4]?).map (·.type)).getD 0) (e := 5) (n := 256) (by kernel_rfl) (by kernel_rfl) (by kernel_rfl) (by kernel_rfl) (by kernel_rfl) (by kernel_rfl) h7
  · rcases List.mem_cons.1 ht with rfl | ht
    · exact tabIs_of_var (g := 0) (t := ((Tryz.prog.globals[0]?).map (·.type)).getD 0) (e := 567) (n := 20) (by kernel_rfl) (by kernel_rfl) (by kernel_rfl) (by kernel_rfl) (by kernel_rfl) (by kernel_rfl) h2
    · cases ht
theorem laid_met (os : Os) (args : Array Value) : laidMet Tryz.prog Rows.frontKnownRow.laid ((laidWorld os).forCall (fun _ _ => 0) ⟨#[], args, []⟩).memory :=
  laidMet_of_run3 10 (by kernel_rfl) (by kernel_rfl) (by kernel_rfl)
end Go.Proofs.YtfeppmhcpfccfaaGreatDoor.frontKnown
