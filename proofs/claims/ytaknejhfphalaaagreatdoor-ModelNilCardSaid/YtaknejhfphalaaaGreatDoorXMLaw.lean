import Derived.Test.YtaknejhfphalaaaGreatDoorXMSt4
import Derived.Test.YtaknejhfphalaaaGreatDoorXState
/-
  The law's own function: the nil model, then the known one.
-/
namespace Go.X
open Go Go.Proofs
set_option maxRecDepth 100000
noncomputable def actV (s : ByteArray) : Value := .agg #[unk, Value.string s, unk, unk]
noncomputable def b3 : Code × Code × Code × Code × Code := match Tryz.f3.body with
  | some (.seq a (.seq b (.seq (.seq c p) d))) => (a, b, c, p, d)
  | _ => (.skip, .skip, .skip, .skip, .skip)
theorem body3 : Tryz.f3.body = some (.seq b3.1 (.seq b3.2.1 (.seq (.seq b3.2.2.1 b3.2.2.2.1) b3.2.2.2.2))) := rfl
noncomputable def callW : CallF := xcall cx (hookF 15 [e_wakes0]) 1000
noncomputable def s0W (s : ByteArray) : St := { f := enterF 0 [actV s] .leaf, ds := [], S := { heap := .leaf, next := 15 } }
noncomputable def r3 (s : ByteArray) : Option St := run3 cx callW (Nat.max [actV s].length Tryz.f3.ntmps) 1000 b3.1 b3.2.1 b3.2.2.1 (s0W s)
noncomputable def s3 (s : ByteArray) : St := match r3 s with
  | some t => t
  | none => s0W s
theorem r3_ok (s : ByteArray) : r3 s = some (s3 s) := by kernel_rfl
theorem t11 (s : ByteArray) : tmp0 (s3 s).f 11 = .bool (Nat.blt 5000 s.data.toList.length) := by kernel_rfl
noncomputable def armW (s : ByteArray) (b : Bool) : Bool := saysTrue (endF cx callW 1000 Tryz.f3 (run2 cx callW (Nat.max [actV s].length Tryz.f3.ntmps) 1000 b3.2.2.2.1 b3.2.2.2.2 (setB (s3 s) 11 b)))
theorem arm_true (s : ByteArray) : armW s true = true := by kernel_rfl
theorem arm_false (s : ByteArray) : armW s false = true := by kernel_rfl
theorem law_ok {e : Env} {w : World} (hrel : Rel cx e { heap := .leaf, next := 15 } w) {c : Array Value} (hc : c.size = 4) {s : ByteArray} (h1 : c[1]? = some (.string s)) :
    Calls Tryz.prog 3 #[.agg c] w fun en w' => en = .returned (.bool true) ∧ Grown w w' := by
  have hcall : CallOK cx callW := xcall_sound cx_ok quiet_ok (hookF_ok (x := cx) (l := [e_wakes0]) (fun E hE => by
      rw [List.mem_singleton] at hE
      rw [hE]; exact ok_wakes0)) 1000
  have harg : VR e (actV s) (.agg c) := by
    refine .agg _ _ (by simp [hc]) fun i v v' hv hv' => ?_
    have hi : i < 4 := by
      have := (Array.getElem?_eq_some_iff.1 hv').1
      omega
    rcases (show i = 0 ∨ i = 1 ∨ i = 2 ∨ i = 3 by omega) with rfl | rfl | rfl | rfl
    · have : v = unk := by simp at hv; exact hv.symm
      rw [this]; exact .any _
    · rw [h1] at hv'
      have : v = .string s := by simp at hv; exact hv.symm
      rw [this, ← Option.some.inj hv']
      exact .ground _ 0 rfl
    · have : v = unk := by simp at hv; exact hv.symm
      rw [this]; exact .any _
    · have : v = unk := by simp at hv; exact hv.symm
      rw [this]; exact .any _
  have := split_ok (n := 0) cx_ok quiet_ok hcall (k := 1000) Tryz.func3 body3 hrel (args := [actV s]) (args' := [.agg c]) ⟨harg, trivial⟩ (r3_ok s) (t11 s) (fun b => by
    cases b
    · exact arm_false s
    · exact arm_true s)
  refine (this.calls (fun k => by simp [FF, Fence.room])).mono fun en w' hen => ?_
  obtain ⟨S1, hen⟩ := hen
  cases en with
  | panicked _ => exact hen.elim
  | outgrown => exact hen.elim
  | returned v' =>
    obtain ⟨e1, h1, h2⟩ := hen
    exact ⟨by rw [h2.bool_inv], grown_of h1⟩
end Go.X
