import Derived.Test.YtofffmieimggmaaGreatDoorXEnt5
/-
  The law's own function: the nil catalog, then the known one.
-/
namespace Go.X
open Go Go.Proofs
set_option maxRecDepth 100000
noncomputable def actV (n : Int) (s : ByteArray) : Value := .agg (List.replicate 29 unk ++ [Value.int .u8 n, Value.string s]).toArray
noncomputable def mainOk (r : Option (Value × AS)) : Bool :=
  match r with
  | some (.bool b, _) => b
  | _ => false
theorem main_ok (n : Int) (s : ByteArray) : mainOk (xcall cx (hookF 14 [e_wakes0]) 1000 (.func 3) [actV n s] { heap := .leaf, next := 14 }) = true := by kernel_rfl
theorem law_ok {e : Env} {w : World} (hrel : Rel cx e { heap := .leaf, next := 14 } w) {c : Array Value} (hc : c.size = 31) {n : Int} {s : ByteArray} (h29 : c[29]? = some (.int .u8 n)) (h30 : c[30]? = some (.string s)) :
    Calls Tryz.prog 3 #[.agg c] w fun en w' => en = .returned (.bool true) ∧ Grown w w' := by
  have hm := main_ok n s
  unfold mainOk at hm
  split at hm
  · rename_i b S1 hrun
    subst hm
    have hcall := xcall_sound cx_ok quiet_ok (hookF_ok (x := cx) (l := [e_wakes0]) (fun E hE => by
      rw [List.mem_singleton] at hE
      rw [hE]; exact ok_wakes0)) 1000
    have harg : VR e (actV n s) (.agg c) := by
      refine .agg _ _ (by simp [hc]) fun i v v' hv hv' => ?_
      have hi : i < 31 := by
        have := (Array.getElem?_eq_some_iff.1 hv').1
        omega
      rcases Nat.lt_or_ge i 29 with h | h
      · have : v = unk := by
          rw [List.getElem?_toArray, List.getElem?_append_left (by simp; omega), List.getElem?_replicate, if_pos h] at hv
          exact (Option.some.inj hv).symm
        rw [this]; exact .any _
      · rcases (show i = 29 ∨ i = 30 by omega) with rfl | rfl
        · rw [h29] at hv'
          have : v = .int .u8 n := by simp at hv; exact hv.symm
          rw [this, ← Option.some.inj hv']
          exact .ground _ 0 rfl
        · rw [h30] at hv'
          have : v = .string s := by simp at hv; exact hv.symm
          rw [this, ← Option.some.inj hv']
          exact .ground _ 0 rfl
    have := hcall.func 3 [actV n s] _ _ S1 hrun e w [.agg c] 0 hrel ⟨harg, trivial⟩
    refine (this.calls (fun k => by simp [FF, Fence.room])).mono fun en w' hen => ?_
    cases en with
    | panicked _ => exact hen.elim
    | outgrown => exact hen.elim
    | returned v' =>
      obtain ⟨e1, h1, h2⟩ := hen
      exact ⟨by rw [h2.bool_inv], grown_of h1⟩
  · cases hm
end Go.X
