/- The tie's closed facts, one by one, the number of 'gosem.cut.vars' being known. -/
import Derived.Test.YtklelmfgdgndaaaGreatDoorRows
import Derived.LaidByTextLater
import Derived.SevenTiedAt
import Derived.LaidSub
import Derived.LaidOnce
import Derived.Test.YtklelmfgdgndaaaGreatDoorWnFa
namespace Go.Proofs.YtklelmfgdgndaaaGreatDoor
open Go
set_option maxRecDepth 100000
abbrev laid8 : List (String × DataW Unit) := [("internal/strconv.uint64pow10", Rows.laid_internal_strconv_uint64pow10), ("math/bits.deBruijn32tab", Rows.laid_math_bits_deBruijn32tab), ("math/bits.deBruijn64tab", Rows.laid_math_bits_deBruijn64tab), ("unicode/utf8.acceptRanges", Rows.laid_unicode_utf8_acceptRanges), ("strings.asciiSpace", Rows.laid_strings_asciiSpace), ("unicode.White_Space", Rows.laid_unicode_White_Space), ("strconv.ErrSyntax", Rows.laid_strconv_ErrSyntax), ("strconv.ErrRange", Rows.laid_strconv_ErrRange)]
theorem varsId_eq : varsId Tryz.prog = 587 := by unfold varsId; rw [vid]; rfl
theorem tw1 : Tryz.prog.worded (varsWordLater true) = true := by kernel_rfl
theorem tw2 : Tryz.prog.worded (varsWordLater !true) = false := by kernel_rfl
theorem tw3 : Tryz.prog.worded rootWordLater = true := by kernel_rfl
theorem tk1 : laid8.map (fun x => Tryz.prog.kindOfLater x.1) = ([.data, .data, .data, .data, .data, .listed, .sentinel, .sentinel] : List LaidKind).map some := by kernel_rfl
end Go.Proofs.YtklelmfgdgndaaaGreatDoor
