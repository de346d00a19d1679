/- What is told of the examples' texts. No walk. -/
import Derived.Test.YtaojgcioljcpmaaGreatDoorWri
namespace Go.Proofs.YtaojgcioljcpmaaGreatDoor
open Go.RowKit

def kA : List UInt8 := [108, 101, 116, 32, 102, 39, 32, 61, 32, 49, 97]
def kB : List UInt8 := [97, 32, 45, 49, 62, 32, 66, 45, 45, 99]
def kC : List UInt8 := [34, 97, 92, 110, 92, 34, 34]
def tA : List T.Tok := [⟨5, [108, 101, 116], 0, ⟨0, 1, 1⟩⟩, ⟨1, [102, 39], 0, ⟨4, 1, 5⟩⟩, ⟨5, [61], 0, ⟨7, 1, 8⟩⟩, ⟨3, [], 1, ⟨9, 1, 10⟩⟩, ⟨1, [97], 0, ⟨10, 1, 11⟩⟩]
def tB : List T.Tok := [⟨1, [97], 0, ⟨0, 1, 1⟩⟩, ⟨5, [45, 49, 62], 0, ⟨2, 1, 3⟩⟩, ⟨2, [66], 0, ⟨6, 1, 7⟩⟩]
def tC : List T.Tok := [⟨4, [97, 10, 34], 0, ⟨0, 1, 1⟩⟩]
def mB : List T.Tok := [⟨1, [97], 0, U.zero⟩, ⟨5, [45, 49, 62], 0, U.zero⟩, ⟨2, [66], 0, U.zero⟩]
def mC : List T.Tok := [⟨4, [97, 10, 34], 0, U.zero⟩]
theorem tok_A : T.tokens kA = (tA, 0, U.zero) := by kernel_rfl
theorem tok_B : T.tokens kB = (tB, 0, U.zero) := by kernel_rfl
theorem tok_C : T.tokens kC = (tC, 0, U.zero) := by kernel_rfl
theorem same_A : sameT true tA tA = true := by decide
theorem same_B : sameT false tB mB = true := by decide
theorem same_C : sameT false tC mC = true := by decide
/-- the six texts that are none: the text, the error, where -/
def bads : List (List UInt8 × Int × Int) := [([48, 49], 100, 0), ([97, 32, 33], 100, 2), ([34, 92, 97, 34], 100, 1), ([34, 97], 102, 0), ([49, 48, 57, 57, 53, 49, 49, 54, 50, 55, 55, 55, 55], 101, 0), (Lib.repeatL [97] 25, 3, 0)]
theorem tok_bad : ∀ (k : Nat) (h : k < bads.length), T.tokens (bads[k]'h).1 = ([], (bads[k]'h).2.1, ⟨(bads[k]'h).2.2, 1, (bads[k]'h).2.2 + 1⟩)
  | 0, _ => by kernel_rfl
  | 1, _ => by kernel_rfl
  | 2, _ => by kernel_rfl
  | 3, _ => by kernel_rfl
  | 4, _ => by kernel_rfl
  | 5, _ => by kernel_rfl
theorem write_a : T.write [⟨1, [97], 0, U.zero⟩, ⟨4, [10], 0, U.zero⟩] = ([97, 32, 34, 92, 110, 34], 0) := by kernel_rfl
theorem write_b : T.write [⟨1, [65], 0, U.zero⟩] = ([], 2) := by kernel_rfl
end Go.Proofs.YtaojgcioljcpmaaGreatDoor
