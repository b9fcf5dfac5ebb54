import Derived.Test.YtaknejhfphalaaaGreatDoorXMObj
import Derived.Test.YtaknejhfphalaaaGreatDoorXState
/-
  Calls on the known model, proved by themselves.
-/
namespace Go.X
open Go Go.Proofs
set_option maxRecDepth 100000
theorem ok_s_run0 : StOK cx s_run0 := st_sound cx_ok quiet_ok (hs := hs_st) (ss := []) (k := 1000) hs_st_ok (fun _ h => by cases h) (by kernel_rfl)
end Go.X
