import Derived.Test.YtaknejhfphalaaaGreatDoorXOp2
/-
  Are two values of the executor's the same? (sound, not complete)
-/
namespace Go.X
open Go

theorem allEq_ok {p : Value → Value → Bool} (hp : ∀ v u, p v u = true → v = u) : ∀ (l m : List Value), allEq p l m = true → l = m
  | [], [], _ => rfl
  | [], _ :: _, h => by cases h
  | _ :: _, [], h => by cases h
  | a :: l, b :: m, h => by
    have h' : (match p a b with | true => allEq p l m | false => false) = true := h
    split at h'
    · rename_i hab
      rw [hp a b hab, allEq_ok hp l m h']
    · cases h'
theorem addrSame_ok {a b : Addr} (h : addrSame a b = true) : a = b := by
  unfold addrSame at h
  split at h
  · cases h
  · rename_i h1
    split at h
    · cases h
    · rename_i h2
      split at h
      · rename_i h3
        cases a; cases b
        simp only at h1 h2 h3 h
        rw [beq_iff.1 h3, beq_iff.1 h, h1, h2]
      · cases h
theorem veqStep_ok {rec : Value → Value → Bool} (hr : ∀ v u, rec v u = true → v = u) (v u : Value) (h : veqStep rec v u = true) : v = u := by
  unfold veqStep at h
  split at h
  · split at h
    · split at h
      · rename_i hk
        rw [kn_inj hk]; rw [eqI_eq] at h; rw [eq_of_beq h]
      · cases h
    · cases h
  · split at h
    · rw [eq_of_beq h]
    · cases h
  · split at h
    · rw [bytesEq_eq] at h; rw [BA.ext (eq_of_beq h)]
    · cases h
  · split at h
    · rfl
    · cases h
  · split at h
    · rw [addrSame_ok h]
    · cases h
  · split at h
    · split at h
      · rename_i hn
        rw [beq_iff.1 hn, beq_iff.1 h]
      · cases h
    · cases h
  · split at h
    · split at h
      · rename_i hn
        split at h
        · rename_i hk
          rw [beq_iff.1 hn, beq_iff.1 hk, addrSame_ok h]
        · cases h
      · cases h
    · cases h
  · split at h
    · rfl
    · cases h
  · split at h
    · rw [beq_iff.1 h]
    · cases h
  · split at h
    · rfl
    · cases h
  · split at h
    · rfl
    · cases h
  · split at h
    · split at h
      · rename_i hn
        split at h
        · rename_i ha
          rw [beq_iff.1 hn, Array.toList_inj.1 (allEq_ok hr _ _ ha), Array.toList_inj.1 (allEq_ok hr _ _ h)]
        · cases h
      · cases h
    · cases h
  · split at h
    · split at h
      · rename_i hn
        split at h
        · rename_i ha
          rw [beq_iff.1 hn, Array.toList_inj.1 (allEq_ok hr _ _ ha), Array.toList_inj.1 (allEq_ok hr _ _ h)]
        · cases h
      · cases h
    · cases h
  · split at h
    · split at h
      · rename_i hn
        rw [beq_iff.1 hn, hr _ _ h]
      · cases h
    · cases h
  · split at h
    · rw [Array.toList_inj.1 (allEq_ok hr _ _ h)]
    · cases h
  · split at h
    · rw [Array.toList_inj.1 (allEq_ok hr _ _ h)]
    · cases h
  · cases h
theorem veq_ok : ∀ (n : Nat) (v u : Value), veq n v u = true → v = u
  | 0, _, _, h => by cases h
  | n + 1, v, u, h => veqStep_ok (fun v u h => veq_ok n v u h) v u h
end Go.X
