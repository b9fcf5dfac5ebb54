import Derived.Test.YtaknejhfphalaaaGreatDoorXMTie2
/-
  The row's tie, put together.
-/
namespace Go.Proofs.YtaknejhfphalaaaGreatDoor
open Go
set_option maxRecDepth 100000
section
variable {P : Program}
theorem by_run {laid : List (String × DataW Unit)} {kinds : List LaidKind} {tests : Bool} (n fuel : Nat)
    (hw : P.worded (varsWordLater tests) = true) (hw' : P.worded (varsWordLater !tests) = false) (hroot : P.worded rootWordLater = true) (hk : laid.map (fun x => P.kindOfLater x.1) = kinds.map some)
    (hg : (P.funcNamed "gosem.cut.vars").isSome = true) (hn : varsNamedLaterB P (varsId P) laid = true) (hd : ∀ os tape, varsDone P n (varsId P) os tape = true)
    (h1 : ∀ os tape, (DataW.laidRun P (varsWorld P n (varsId P) os tape).memory fuel (laid.map (·.1))).map (·.1) = some laid)
    (h2 : ∀ os tape, freshL ((plOf (DataW.laidRun P (varsWorld P n (varsId P) os tape).memory fuel (laid.map (·.1)))).map keyP) 0 = true)
    (h3 : ∀ os tape, laidRowsB P (varsWorld P n (varsId P) os tape).memory (plOf (DataW.laidRun P (varsWorld P n (varsId P) os tape).memory fuel (laid.map (·.1)))) = true)
    (hp : (laid.all fun x => x.2.handleName?.isNone) = true) : P.laidByTextLater laid kinds tests :=
  Program.laidByTextLater_by_run n fuel hw hw' hroot hk hg hn hd h1 (fun os tape => pair_ok (f := laidRowsB P (varsWorld P n (varsId P) os tape).memory) _ (h1 os tape) (h2 os tape) (h3 os tape)) hp
end
theorem tieM : Tryz.prog.laidByTextLater laidL [.data, .sentinel, .sentinel, .data, .data, .data, .data, .listed, .data] true :=
  by_run 400 8 tie_w tie_w2 tie_root tie_k tie_g tie_n tie_d tie_1 places_once places_rows tie_h
theorem pinM_first : Tryz.pinned.checked.prog.pinnedFits "unicode/utf8.first" = true := by kernel_rfl
theorem pinM_case : Tryz.pinned.checked.prog.pinnedFits "unicode.CaseRanges" = true := by kernel_rfl
theorem noOwnM : Tryz.pinned.checked.prog.headLifts.contains "ownunsafe" = false := by kernel_rfl
theorem fitsM : Tryz.pinned.checked.prog.listedFits Rows.modelNilRow.laid = true := by
  unfold Program.listedFits
  rw [noOwnM]
  kernel_rfl
theorem row_tieM : Rows.modelNilRow.laidByTextAt .later Tryz.pinned [.pinned, .data, .pinned, .sentinel, .sentinel, .data, .data, .data, .data, .listed, .data] true :=
  OpenClaim.laidByTextAt_pinned rfl rfl tieM rfl rfl rfl rfl (fun y hy _e => by
    simp only [Rows.modelNilRow, List.zip_cons_cons, List.zip_nil_right, List.mem_cons, List.mem_nil_iff, or_false] at hy
    rcases hy with rfl | rfl | rfl | rfl | rfl | rfl | rfl | rfl | rfl | rfl | rfl
    · exact ⟨pinM_first, by kernel_rfl⟩
    · cases _e
    · exact ⟨pinM_case, by kernel_rfl⟩
    · cases _e
    · cases _e
    · cases _e
    · cases _e
    · cases _e
    · cases _e
    · cases _e
    · cases _e) fitsM
end Go.Proofs.YtaknejhfphalaaaGreatDoor
