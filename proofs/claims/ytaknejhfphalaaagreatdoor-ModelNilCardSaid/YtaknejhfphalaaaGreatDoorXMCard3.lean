import Derived.Test.YtaknejhfphalaaaGreatDoorXMCard2
/-
  The row's closed facts, each by itself.
-/
namespace Go.Proofs.YtaknejhfphalaaaGreatDoor
open Go.ChangeShapes Go.WideShapes Go.ChangeAt Go.RowKit
set_option maxRecDepth 100000
set_option maxHeartbeats 8000000 in
theorem facts : joinedFacts Tryz.pinned.checked.prog 3 Tryz.f3 Rows.modelNilSpec Rows.modelNilRow = true := by
  simp only [joinedFacts, Bool.and_eq_true]
  repeat' apply And.intro
  all_goals as_aux_lemma => kernel_rfl
end Go.Proofs.YtaknejhfphalaaaGreatDoor
