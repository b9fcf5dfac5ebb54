/-
  Whatever the step, tidelinelaw30.ModelNil returns true and its argument reads behind the call as it did: a nil model answers nothing, and the known model answers as the document says; the row's listed variables are tied to the program's text.
  Conditions: those of the card alone (the arguments can be read as data; the eleven listed tables of the library start as the program's text lays them).
-/
import Derived.Test.YtaknejhfphalaaaGreatDoorXMCard4
import Derived.Test.YtaknejhfphalaaaGreatDoorXMTie3
namespace Go.Proofs.YtaknejhfphalaaaGreatDoor
open Go.ChangeShapes Go.WideShapes Go.ChangeAt Go.RowKit
set_option maxRecDepth 100000
theorem wf7 : Rows.modelNilRow.wfByText (OpenSpec.ofChange Rows.modelNilSpec) = true := by kernel_rfl
theorem main7 : Tryz.pinned.checked.prog.mainIs = some (true, "bd95e833dce0928955d7e1a0454cc6fd8e615ebe57c9e34b5d45ac1136537650".toList) := by kernel_rfl
theorem looks7 : true = Tryz.pinned.checked.prog.looks [] := by kernel_rfl
theorem nogo : Tryz.pinned.checked.prog.funcs.all (fun fn => !fn.goes) = true := by kernel_rfl
theorem nogo_at (g : Nat) : (Tryz.pinned.checked.prog.funcs[g]?).any Func.goes = false := by
  cases hq : Tryz.pinned.checked.prog.funcs[g]? with
  | none => rfl
  | some fn =>
    have := (Array.all_eq_true_iff_forall_mem.1 nogo) fn (Array.mem_of_getElem? hq)
    simpa using this
theorem nogo_any : Tryz.pinned.checked.prog.funcs.any Func.goes = false := by
  rw [Array.any_eq_false]
  intro i hi
  have := (Array.all_eq_true_iff_forall_mem.1 nogo) _ (Array.getElem_mem hi)
  simpa using this
theorem goes_of {P : Program} {c : OpenClaim} {f : FuncId} (hs : c.start = .entering) (hn : P.funcNamed c.func = some f) (hno : ∀ g : Nat, (P.funcs[g]?).any Func.goes = false) (hany : P.funcs.any Func.goes = false) : false = c.goesBy P := by
  unfold OpenClaim.goesBy Program.goesAt Program.goesFrom
  rw [hs, hn]
  simp only [Option.any_some, Program.goes, hany, Bool.and_false, Bool.or_false]
  refine (List.any_eq_false.2 fun g _ => ?_).symm
  rw [hno g]
  simp
theorem goes7 : false = Rows.modelNilRow.goesBy Tryz.pinned.checked.prog := goes_of rfl named3 nogo_at nogo_any
theorem stand7 : ([24].all fun u => !Tryz.pinned.checked.prog.wantsStandIn u) = true := by kernel_rfl
theorem modelNil_holds : Rows.ModelNilCardSaid :=
  Claim7.holds_tied_plain_at .later [] [.pinned, .data, .pinned, .sentinel, .sentinel, .data, .data, .data, .data, .listed, .data] true (true, "bd95e833dce0928955d7e1a0454cc6fd8e615ebe57c9e34b5d45ac1136537650") true
    row_holds (fun _ h => by cases h) wf7 (fun _ h => by cases h) row_tieM rfl ⟨rfl, rfl⟩ main7 rfl
    (fun f fn hf hfn => by
      obtain rfl : f = 3 := Option.some.inj (named3.symm.trans hf) |>.symm
      obtain rfl : fn = Tryz.f3 := (Option.some.inj (Tryz.func3.symm.trans hfn)).symm
      exact ⟨looks7, fun j t ht => by
        rw [Tryz.params3] at ht
        have hm : t ∈ [24] := by simpa using Array.mem_of_getElem? ht
        simpa using List.all_eq_true.1 stand7 t hm⟩)
    goes7
#print axioms modelNil_holds
end Go.Proofs.YtaknejhfphalaaaGreatDoor
