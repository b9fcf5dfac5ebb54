import Derived.Test.YtofffmieimggmaaGreatDoorRows
import Derived.Test.YtofffmieimggmaaGreatDoorXQuiet
import Derived.Test.YtofffmieimggmaaGreatDoorXHook3
/-
  The program of this seat, seen by the executor.
-/
namespace Go.X
open Go Go.Proofs
set_option maxRecDepth 100000
noncomputable def asciiSp : List Value := [0,0,0,0,0,0,0,0,0,1,1,1,1,1,0,0,0,0,0,0,0,0,0,0,0,0,0,0,0,0,0,0,1].map (fun (n : Nat) => Value.int .u8 n) ++ List.replicate 223 (Value.int .u8 0)
noncomputable def cx : Cx := { P := Tryz.prog, G := 14, gt := fun g => match g with | 0 => some asciiSp | _ => none, quiet := fun g => Nat.beq g 37, multi := fun g => match Nat.beq g 6 with | true => true | false => Nat.beq g 219 }

theorem names_ok : Tryz.prog.funcs.all (fun fn => fn.name != "runtime.NumGoroutine") = true := by kernel_rfl
theorem who_esc : (Tryz.prog.funcs.toList.zipIdx.all fun p => p.1.name != "internal/abi.NoEscape" || p.2 == 258) = true := by kernel_rfl
theorem who_mnz : (Tryz.prog.funcs.toList.zipIdx.all fun p => p.1.name != "internal/bytealg.MakeNoZero" || p.2 == 340) = true := by kernel_rfl
theorem who_at {nm : String} {k : Nat} (h : (Tryz.prog.funcs.toList.zipIdx.all fun p => p.1.name != nm || p.2 == k) = true) {g : Nat} {fn : Func} (hf : Tryz.prog.funcs[g]? = some fn) (hn : fn.name = nm) : g = k := by
  have hm : (fn, g) ∈ Tryz.prog.funcs.toList.zipIdx := by
    rw [List.mem_zipIdx_iff_getElem?, Array.getElem?_toList]; exact hf
  have := List.all_eq_true.1 h _ hm
  simp only [hn, bne_self_eq_false, Bool.false_or, beq_iff_eq] at this
  exact this
theorem cx_ok : CxOK cx := by
  refine ⟨fun g fn hf hn => ?_, fun g fn hf _ hn => ?_, fun g fn hf _ hn => ?_⟩
  · have hm : fn ∈ Tryz.prog.funcs := Array.mem_of_getElem? hf
    have := (Array.all_eq_true_iff_forall_mem.1 names_ok) fn hm
    rw [hn] at this
    simp at this
  · have hg := who_at who_esc hf hn
    subst hg
    have hfn : fn = Tryz.f258 := by
      have : Tryz.prog.funcs[258]? = some Tryz.f258 := Tryz.func258
      exact Option.some.inj (hf.symm.trans this)
    subst hfn
    exact ⟨by kernel_rfl, by kernel_rfl⟩
  · have hg := who_at who_mnz hf hn
    subst hg
    have hfn : fn = Tryz.f340 := by
      have : Tryz.prog.funcs[340]? = some Tryz.f340 := Tryz.func340
      exact Option.some.inj (hf.symm.trans this)
    subst hfn
    exact ⟨by kernel_rfl, by kernel_rfl⟩
end Go.X
