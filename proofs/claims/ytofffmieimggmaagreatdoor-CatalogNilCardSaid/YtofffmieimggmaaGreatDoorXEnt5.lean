import Derived.Test.YtofffmieimggmaaGreatDoorXEnt3
import Derived.Test.YtofffmieimggmaaGreatDoorXEnt4
/-
  The known catalog.
-/
namespace Go.X
open Go Go.Proofs
set_option maxRecDepth 100000
def e_wakes0 : Entry := { g := 15, args := [], v := .bool true, os := [] }
def hs_wakes : List Entry := [e_read0, e_read1, e_read2, e_parse0, e_parse1, e_parse2, e_res0]
theorem hs_wakes_ok : ∀ E, E ∈ hs_wakes → EntryOK cx E := by
  intro E h
  simp only [hs_wakes, List.mem_cons, List.not_mem_nil, or_false] at h
  rcases h with rfl | rfl | rfl | rfl | rfl | rfl | rfl
  · exact ok_read0
  · exact ok_read1
  · exact ok_read2
  · exact ok_parse0
  · exact ok_parse1
  · exact ok_parse2
  · exact ok_res0
theorem ok_wakes0 : EntryOK cx e_wakes0 := entry_sound cx_ok quiet_ok (hs := hs_wakes) (k := 1000) (ro := []) hs_wakes_ok (by kernel_rfl) (by kernel_rfl)
end Go.X
