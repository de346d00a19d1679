/- The program's tie, part A: what its words and lists say. Conditions: none. -/
import Derived.Test.YtfeppmhcpfccfaaGreatDoorRows
import Derived.LaidByTextLater
import Derived.SevenTiedAt
import Derived.KernelRfl
set_option linter.unusedVariables false
set_option linter.unusedSimpArgs false
namespace Go.Proofs.YtfeppmhcpfccfaaGreatDoor
open Go
set_option maxRecDepth 100000
/-- the listed variables that the text lays -/
noncomputable def tieL : List (String × DataW Unit) := [("unicode/utf8.acceptRanges", Rows.laid_unicode_utf8_acceptRanges), ("strings.asciiSpace", Rows.laid_strings_asciiSpace), ("unicode.White_Space", Rows.laid_unicode_White_Space), ("strconv.ErrSyntax", Rows.laid_strconv_ErrSyntax), ("strconv.ErrRange", Rows.laid_strconv_ErrRange), ("internal/strconv.uint64pow10", Rows.laid_internal_strconv_uint64pow10), ("math/bits.deBruijn32tab", Rows.laid_math_bits_deBruijn32tab), ("math/bits.deBruijn64tab", Rows.laid_math_bits_deBruijn64tab)]
theorem ti_word : Tryz.prog.worded (varsWordLater true) = true := by kernel_rfl
theorem ti_word2 : Tryz.prog.worded (varsWordLater !true) = false := by kernel_rfl
theorem ti_root : Tryz.prog.worded rootWordLater = true := by kernel_rfl
theorem ti_kinds : tieL.map (fun x => Tryz.prog.kindOfLater x.1) = ([.data, .data, .listed, .sentinel, .sentinel, .data, .data, .data] : List LaidKind).map some := by kernel_rfl
theorem ti_vars : (Tryz.prog.funcNamed "gosem.cut.vars").isSome = true := by kernel_rfl
theorem ti_plain : (tieL.all fun x => x.2.handleName?.isNone) = true := by kernel_rfl
end Go.Proofs.YtfeppmhcpfccfaaGreatDoor
