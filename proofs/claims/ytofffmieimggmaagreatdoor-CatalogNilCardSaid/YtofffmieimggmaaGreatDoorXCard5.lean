/-
  Whatever the act, tidelinelaw23.CatalogNil returns true and its argument reads behind the call as it did: a nil catalog answers nothing, and the known catalog answers as the document says; the row's listed variables are tied to the program's text.
  Conditions: those of the card alone (the arguments can be read as data; the ten listed tables of the library start as the program's text lays them).
-/
import Derived.Test.YtofffmieimggmaaGreatDoorXCard4
namespace Go.Proofs.YtofffmieimggmaaGreatDoor
open Go.ChangeShapes Go.WideShapes Go.ChangeAt Go.RowKit
set_option maxRecDepth 100000
theorem wf7 : Rows.catalogNilRow.wfByText (OpenSpec.ofChange Rows.catalogNilSpec) = true := by kernel_rfl
theorem main7 : Tryz.pinned.checked.prog.mainIs = some (true, "773bcd05b55c78ba0b0451be8945e994afb5e2e9090df99b233d5519b8f941ac".toList) := by kernel_rfl
theorem looks7 : true = Tryz.pinned.checked.prog.looks [] := by kernel_rfl
theorem nogo : Tryz.pinned.checked.prog.funcs.all (fun fn => !fn.goes) = true := by kernel_rfl
theorem nogo_at (g : Nat) : (Tryz.pinned.checked.prog.funcs[g]?).any Func.goes = false := by
  cases hq : Tryz.pinned.checked.prog.funcs[g]? with
  | none => rfl
  | some fn =>
    have := (Array.all_eq_true_iff_forall_mem.1 nogo) fn (Array.mem_of_getElem? hq)
    simpa using this
theorem nogo_any : Tryz.pinned.checked.prog.funcs.any Func.goes = false := by
  rw [Array.any_eq_false]
  intro i hi
  have := (Array.all_eq_true_iff_forall_mem.1 nogo) _ (Array.getElem_mem hi)
  simpa using this
theorem goes7 : false = Rows.catalogNilRow.goesBy Tryz.pinned.checked.prog := by
  unfold OpenClaim.goesBy Program.goesAt
  rw [show Rows.catalogNilRow.start = .entering from rfl]
  unfold Program.goesFrom
  rw [named3]
  simp only [Option.any_some, Program.goes, nogo_any, Bool.and_false, Bool.or_false]
  refine (List.any_eq_false.2 fun g _ => ?_).symm
  rw [nogo_at g]
  simp
theorem stand7 : ([36].all fun u => !Tryz.pinned.checked.prog.wantsStandIn u) = true := by kernel_rfl
theorem catalogNil_holds : Rows.CatalogNilCardSaid :=
  Claim7.holds_tied_plain_at .later [] [.data, .data, .data, .data, .sentinel, .sentinel, .listed, .data, .pinned, .pinned] true (true, "773bcd05b55c78ba0b0451be8945e994afb5e2e9090df99b233d5519b8f941ac") true
    row_holds (fun _ h => by cases h) wf7 (fun _ h => by cases h) catalogNil_row_tie rfl ⟨rfl, rfl⟩ main7 rfl
    (fun f fn hf hfn => by
      obtain rfl : f = 3 := Option.some.inj (named3.symm.trans hf) |>.symm
      obtain rfl : fn = Tryz.f3 := (Option.some.inj (Tryz.func3.symm.trans hfn)).symm
      exact ⟨looks7, fun j t ht => by
        rw [Tryz.params3] at ht
        have hm : t ∈ [36] := by simpa using Array.mem_of_getElem? ht
        simpa using List.all_eq_true.1 stand7 t hm⟩)
    goes7
#print axioms catalogNil_holds
end Go.Proofs.YtofffmieimggmaaGreatDoor
