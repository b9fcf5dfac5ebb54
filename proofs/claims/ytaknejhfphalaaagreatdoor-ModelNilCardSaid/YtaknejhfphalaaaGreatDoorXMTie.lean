import Derived.Test.YtaknejhfphalaaaGreatDoorRows
import Derived.LaidByTextLater
import Derived.SevenTiedAt
/-
  The row's tie, its closed facts each by itself.
-/
namespace Go.Proofs.YtaknejhfphalaaaGreatDoor
open Go
set_option maxRecDepth 100000
def laidL : List (String × DataW Unit) := [("unicode/utf8.acceptRanges", Rows.laid_unicode_utf8_acceptRanges), ("strconv.ErrSyntax", Rows.laid_strconv_ErrSyntax), ("strconv.ErrRange", Rows.laid_strconv_ErrRange), ("internal/strconv.uint64pow10", Rows.laid_internal_strconv_uint64pow10), ("math/bits.deBruijn32tab", Rows.laid_math_bits_deBruijn32tab), ("math/bits.deBruijn64tab", Rows.laid_math_bits_deBruijn64tab), ("strings.asciiSpace", Rows.laid_strings_asciiSpace), ("unicode.White_Space", Rows.laid_unicode_White_Space), ("tideline/bound.whole", Rows.laid_tideline_bound_whole)]
section
variable {P : Program}
/-- what is asked of one listed variable -/
def fitV (P : Program) (code : Code) (stored : List Nat) (v : Nat) (x : String × DataW Unit) (k : Option LaidKind) : Bool :=
  (stored.contains v == (k != some .zero)) && callsFit code v k &&
    ((code.storedByHandle P).contains v == (k == some .handle)) && (x.2.handleName?.isSome == (k == some .handle || k == some .funcs)) &&
    (k != some .handle || handlePair x) && (x.2.funcsIn?.isSome == (k == some .funcs)) && mapsFit code v x.2 k
theorem named_of {g : FuncId} {laid : List (String × DataW Unit)} {code : Code} {stored : List Nat} (h1 : (P.funcs[g]?).bind (·.body) = some code) (h2 : code.laysInOrder [] = some stored)
    (h3 : (stored.eraseDups.length == stored.length) = true) (h4 : P.callsLaidAlone g code = true) (h5 : ∀ x, x ∈ laid → ∃ v k, P.globalNamed x.1 = some v ∧ P.kindBase x.1 = k ∧ fitV P code stored v x k = true) : varsNamedLaterB P g laid = true := by
  unfold varsNamedLaterB
  simp only [h1, h2, h3, h4, Bool.true_and]
  refine List.all_eq_true.2 fun x hx => ?_
  obtain ⟨v, k, e1, e2, e3⟩ := h5 x hx
  rw [e1, e2]
  exact e3
end
noncomputable def codeV : Code := match (Tryz.prog.funcs[varsId Tryz.prog]?).bind (·.body) with
  | some c => c
  | Option.none => .skip
theorem code_ok : (Tryz.prog.funcs[varsId Tryz.prog]?).bind (·.body) = some codeV := by kernel_rfl
noncomputable def storedV : List Nat := match codeV.laysInOrder [] with
  | some l => l
  | Option.none => []
theorem stored_ok : codeV.laysInOrder [] = some storedV := by kernel_rfl
theorem stored_once : (storedV.eraseDups.length == storedV.length) = true := by kernel_rfl
theorem alone_1 : (!codeV.unfollowedBeside Tryz.prog) = true := by kernel_rfl
theorem alone_2 : (codeV.tempsApart 0).isSome = true := by kernel_rfl
theorem alone_3 : codeV.regionsFit Tryz.prog [] = true := by kernel_rfl
theorem handles : codeV.storedByHandle Tryz.prog = [] := by kernel_rfl
theorem alone_ok : Tryz.prog.callsLaidAlone (varsId Tryz.prog) codeV = true := by
  unfold Program.callsLaidAlone
  simp only [alone_1, alone_2, alone_3, handles]
  rfl
theorem kb_0 : Tryz.prog.kindBase "unicode/utf8.acceptRanges" = some .data := by kernel_rfl
theorem gn_0 : Tryz.prog.globalNamed "unicode/utf8.acceptRanges" = some 8 := by kernel_rfl
theorem fit_0 : fitV Tryz.prog codeV storedV 8 ("unicode/utf8.acceptRanges", Rows.laid_unicode_utf8_acceptRanges) (some .data) = true := by kernel_rfl
theorem kb_1 : Tryz.prog.kindBase "strconv.ErrSyntax" = some .sentinel := by kernel_rfl
theorem gn_1 : Tryz.prog.globalNamed "strconv.ErrSyntax" = some 4 := by kernel_rfl
theorem fit_1 : fitV Tryz.prog codeV storedV 4 ("strconv.ErrSyntax", Rows.laid_strconv_ErrSyntax) (some .sentinel) = true := by kernel_rfl
theorem kb_2 : Tryz.prog.kindBase "strconv.ErrRange" = some .sentinel := by kernel_rfl
theorem gn_2 : Tryz.prog.globalNamed "strconv.ErrRange" = some 5 := by kernel_rfl
theorem fit_2 : fitV Tryz.prog codeV storedV 5 ("strconv.ErrRange", Rows.laid_strconv_ErrRange) (some .sentinel) = true := by kernel_rfl
theorem kb_3 : Tryz.prog.kindBase "internal/strconv.uint64pow10" = some .data := by kernel_rfl
theorem gn_3 : Tryz.prog.globalNamed "internal/strconv.uint64pow10" = some 9 := by kernel_rfl
theorem fit_3 : fitV Tryz.prog codeV storedV 9 ("internal/strconv.uint64pow10", Rows.laid_internal_strconv_uint64pow10) (some .data) = true := by kernel_rfl
theorem kb_4 : Tryz.prog.kindBase "math/bits.deBruijn32tab" = some .data := by kernel_rfl
theorem gn_4 : Tryz.prog.globalNamed "math/bits.deBruijn32tab" = some 12 := by kernel_rfl
theorem fit_4 : fitV Tryz.prog codeV storedV 12 ("math/bits.deBruijn32tab", Rows.laid_math_bits_deBruijn32tab) (some .data) = true := by kernel_rfl
theorem kb_5 : Tryz.prog.kindBase "math/bits.deBruijn64tab" = some .data := by kernel_rfl
theorem gn_5 : Tryz.prog.globalNamed "math/bits.deBruijn64tab" = some 13 := by kernel_rfl
theorem fit_5 : fitV Tryz.prog codeV storedV 13 ("math/bits.deBruijn64tab", Rows.laid_math_bits_deBruijn64tab) (some .data) = true := by kernel_rfl
theorem kb_6 : Tryz.prog.kindBase "strings.asciiSpace" = some .data := by kernel_rfl
theorem gn_6 : Tryz.prog.globalNamed "strings.asciiSpace" = some 1 := by kernel_rfl
theorem fit_6 : fitV Tryz.prog codeV storedV 1 ("strings.asciiSpace", Rows.laid_strings_asciiSpace) (some .data) = true := by kernel_rfl
theorem kb_7 : Tryz.prog.kindBase "unicode.White_Space" = some .listed := by kernel_rfl
theorem gn_7 : Tryz.prog.globalNamed "unicode.White_Space" = some 2 := by kernel_rfl
theorem fit_7 : fitV Tryz.prog codeV storedV 2 ("unicode.White_Space", Rows.laid_unicode_White_Space) (some .listed) = true := by kernel_rfl
theorem kb_8 : Tryz.prog.kindBase "tideline/bound.whole" = some .data := by kernel_rfl
theorem gn_8 : Tryz.prog.globalNamed "tideline/bound.whole" = some 0 := by kernel_rfl
theorem fit_8 : fitV Tryz.prog codeV storedV 0 ("tideline/bound.whole", Rows.laid_tideline_bound_whole) (some .data) = true := by kernel_rfl
theorem tie_n : varsNamedLaterB Tryz.prog (varsId Tryz.prog) laidL = true := by
  refine named_of code_ok stored_ok stored_once alone_ok fun x hx => ?_
  simp only [laidL, List.mem_cons, List.not_mem_nil, or_false] at hx
  rcases hx with rfl | rfl | rfl | rfl | rfl | rfl | rfl | rfl | rfl
  · exact ⟨_, _, gn_0, kb_0, fit_0⟩
  · exact ⟨_, _, gn_1, kb_1, fit_1⟩
  · exact ⟨_, _, gn_2, kb_2, fit_2⟩
  · exact ⟨_, _, gn_3, kb_3, fit_3⟩
  · exact ⟨_, _, gn_4, kb_4, fit_4⟩
  · exact ⟨_, _, gn_5, kb_5, fit_5⟩
  · exact ⟨_, _, gn_6, kb_6, fit_6⟩
  · exact ⟨_, _, gn_7, kb_7, fit_7⟩
  · exact ⟨_, _, gn_8, kb_8, fit_8⟩
end Go.Proofs.YtaknejhfphalaaaGreatDoor
