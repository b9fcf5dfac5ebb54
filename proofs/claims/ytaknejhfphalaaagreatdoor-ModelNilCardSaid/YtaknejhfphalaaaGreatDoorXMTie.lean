import Derived.Test.YtaknejhfphalaaaGreatDoorRows
import Derived.LaidByTextLater
import Derived.SevenTiedAt
/-
  The row's tie, its closed facts each by itself.
-/
namespace Go.Proofs.YtaknejhfphalaaaGreatDoor
open Go
set_option maxRecDepth 100000
def laidL : List (String × DataW Unit) := [("unicode/utf8.acceptRanges", Rows.laid_unicode_utf8_acceptRanges), ("strconv.ErrSyntax", Rows.laid_strconv_ErrSyntax), ("strconv.ErrRange", Rows.laid_strconv_ErrRange), ("internal/strconv.uint64pow10", Rows.laid_internal_strconv_uint64pow10), ("math/bits.deBruijn32tab", Rows.laid_math_bits_deBruijn32tab), ("math/bits.deBruijn64tab", Rows.laid_math_bits_deBruijn64tab), ("strings.asciiSpace", Rows.laid_strings_asciiSpace), ("unicode.White_Space", Rows.laid_unicode_White_Space), ("tideline/bound.whole", Rows.laid_tideline_bound_whole)]
theorem tie_n : varsNamedLaterB Tryz.prog (varsId Tryz.prog) laidL = true := by kernel_rfl
end Go.Proofs.YtaknejhfphalaaaGreatDoor
