import Derived.Test.YtaknejhfphalaaaGreatDoorXMSt0
import Derived.Test.YtaknejhfphalaaaGreatDoorXMSt1
import Derived.Test.YtaknejhfphalaaaGreatDoorXMSt2
import Derived.Test.YtaknejhfphalaaaGreatDoorXMSt3
/-
  The known model.
-/
namespace Go.X
open Go Go.Proofs
set_option maxRecDepth 100000
def ss_wakes : List StE := [s_exec0, s_exec1, s_exec2, s_exec3, s_run0, s_exec4, s_state0]
theorem ss_wakes_ok : ∀ E, E ∈ ss_wakes → StOK cx E := by
  intro E h
  simp only [ss_wakes, List.mem_cons, List.not_mem_nil, or_false] at h
  rcases h with rfl | rfl | rfl | rfl | rfl | rfl | rfl
  · exact ok_s_exec0
  · exact ok_s_exec1
  · exact ok_s_exec2
  · exact ok_s_exec3
  · exact ok_s_run0
  · exact ok_s_exec4
  · exact ok_s_state0
def e_wakes0 : Entry := { g := 4, args := [], v := .bool true, os := [] }
theorem ok_wakes0 : EntryOK cx e_wakes0 := entry_ok (ro := []) (xcall_sound cx_ok quiet_ok (hookA_ok hs_st_ok ss_wakes_ok) 1000) (by kernel_rfl) (by kernel_rfl)
end Go.X
