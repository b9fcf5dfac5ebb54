import Derived.Test.YtaknejhfphalaaaGreatDoorXMObj
import Derived.Test.YtaknejhfphalaaaGreatDoorXState
/-
  Calls on the known model, proved by themselves.
-/
namespace Go.X
open Go Go.Proofs
set_option maxRecDepth 100000
theorem ok_s_exec2 : StOK cx s_exec2 := st_sound cx_ok quiet_ok (hs := hs_st) (ss := []) (k := 1000) hs_st_ok (fun _ h => by cases h) (by kernel_rfl)
theorem ok_s_exec3 : StOK cx s_exec3 := st_sound cx_ok quiet_ok (hs := hs_st) (ss := []) (k := 1000) hs_st_ok (fun _ h => by cases h) (by kernel_rfl)
theorem ok_s_exec4 : StOK cx s_exec4 := st_sound cx_ok quiet_ok (hs := hs_st) (ss := []) (k := 1000) hs_st_ok (fun _ h => by cases h) (by kernel_rfl)
end Go.X
