import Derived.Test.YtaknejhfphalaaaGreatDoorXMTie
/-
  The row's tie.
-/
namespace Go.Proofs.YtaknejhfphalaaaGreatDoor
open Go
set_option maxRecDepth 100000
theorem tie_w : Tryz.prog.worded (varsWordLater true) = true := by kernel_rfl
theorem tie_w2 : Tryz.prog.worded (varsWordLater !true) = false := by kernel_rfl
theorem tie_root : Tryz.prog.worded rootWordLater = true := by kernel_rfl
theorem tie_k : laidL.map (fun x => Tryz.prog.kindOfLater x.1) = [LaidKind.data, .sentinel, .sentinel, .data, .data, .data, .data, .listed, .data].map some := by kernel_rfl
theorem tie_g : (Tryz.prog.funcNamed "gosem.cut.vars").isSome = true := by kernel_rfl
theorem tie_d (os : Os) (tape : Tape) : varsDone Tryz.prog 400 (varsId Tryz.prog) os tape = true := by kernel_rfl
theorem tie_1 (os : Os) (tape : Tape) : (DataW.laidRun Tryz.prog (varsWorld Tryz.prog 400 (varsId Tryz.prog) os tape).memory 8 (laidL.map (·.1))).map (·.1) = some laidL := by kernel_rfl
/-- numbers, none twice; m: those met so far, as bits -/
def freshL : List Nat → Nat → Bool
  | [], _ => true
  | k :: l, m => match Nat.testBit m k with
    | true => false
    | false => freshL l (m ||| 2 ^ k)
theorem freshL_ok : ∀ {l : List Nat} {m : Nat}, freshL l m = true → (∀ k, k ∈ l → m.testBit k = false) ∧ l.Nodup
  | [], _, _ => ⟨fun _ h => by simp at h, List.nodup_nil⟩
  | k :: l, m, h => by
    simp only [freshL] at h
    split at h
    · cases h
    · rename_i hk
      obtain ⟨h1, h2⟩ := freshL_ok h
      have h3 : ∀ j, j ∈ l → m.testBit j = false ∧ j ≠ k := fun j hj => by
        have := h1 j hj
        rw [Nat.testBit_or, Bool.or_eq_false_iff] at this
        refine ⟨this.1, fun hh => ?_⟩
        rw [hh, Nat.testBit_two_pow_self] at this
        cases this.2
      refine ⟨fun j hj => ?_, List.nodup_cons.2 ⟨fun hh => (h3 k hh).2 rfl, h2⟩⟩
      rcases List.mem_cons.1 hj with rfl | hj
      · exact hk
      · exact (h3 j hj).1
def keyP : MemPlace → Nat
  | .cell b o => b * 512 + o
  | .map b => b * 512 + 511
theorem nodup_of_map {α β : Type} {f : α → β} : ∀ {l : List α}, (l.map f).Nodup → l.Nodup
  | [], _ => List.nodup_nil
  | a :: l, h => by
    rw [List.map_cons, List.nodup_cons] at h
    exact List.nodup_cons.2 ⟨fun hh => h.1 (List.mem_map.2 ⟨a, hh, rfl⟩), nodup_of_map h.2⟩
def plOf {α : Type} (R : Option (α × List MemPlace)) : List MemPlace := match R with
  | some x => x.2
  | Option.none => []
theorem pair_ok {α : Type} {l : α} {f : List MemPlace → Bool} : ∀ (R : Option (α × List MemPlace)), R.map (·.1) = some l → freshL ((plOf R).map keyP) 0 = true → f (plOf R) = true → R.map (fun x => decide x.2.Nodup && f x.2) = some true
  | Option.none, h, _, _ => by cases h
  | some x, _, h2, h3 => by
    have hn : decide x.2.Nodup = true := decide_eq_true (nodup_of_map (freshL_ok (l := x.2.map keyP) h2).2)
    have h3 : f x.2 = true := h3
    simp only [Option.map_some, hn, h3, Bool.and_true]
theorem places_once (os : Os) (tape : Tape) : freshL ((plOf (DataW.laidRun Tryz.prog (varsWorld Tryz.prog 400 (varsId Tryz.prog) os tape).memory 8 (laidL.map (·.1)))).map keyP) 0 = true := by kernel_rfl
theorem places_rows (os : Os) (tape : Tape) : laidRowsB Tryz.prog (varsWorld Tryz.prog 400 (varsId Tryz.prog) os tape).memory (plOf (DataW.laidRun Tryz.prog (varsWorld Tryz.prog 400 (varsId Tryz.prog) os tape).memory 8 (laidL.map (·.1)))) = true := by kernel_rfl
theorem tie_h : (laidL.all fun x => x.2.handleName?.isNone) = true := by kernel_rfl
end Go.Proofs.YtaknejhfphalaaaGreatDoor
