import Derived.Test.YtaknejhfphalaaaGreatDoorXMEnt1
import Derived.Test.YtaknejhfphalaaaGreatDoorXMEnt2
import Derived.Test.YtaknejhfphalaaaGreatDoorXMEnt3
import Derived.Test.YtaknejhfphalaaaGreatDoorXMEnt4
/-
  The lexer on all texts.
-/
namespace Go.X
open Go Go.Proofs
set_option maxRecDepth 100000
def hs_parse : List Entry := [e_res0, e_lex0, e_lex1, e_lex2, e_lex3, e_lex4, e_lex5, e_lex6, e_lex7]
theorem hs_parse_ok : ∀ E, E ∈ hs_parse → EntryOK cx E := by
  intro E h
  simp only [hs_parse, List.mem_cons, List.not_mem_nil, or_false] at h
  rcases h with rfl | rfl | rfl | rfl | rfl | rfl | rfl | rfl | rfl
  · exact ok_res0
  · exact ok_lex0
  · exact ok_lex1
  · exact ok_lex2
  · exact ok_lex3
  · exact ok_lex4
  · exact ok_lex5
  · exact ok_lex6
  · exact ok_lex7
end Go.X
