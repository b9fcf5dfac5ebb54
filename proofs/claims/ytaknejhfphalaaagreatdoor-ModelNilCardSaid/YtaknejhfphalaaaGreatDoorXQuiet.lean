import Derived.Test.YtaknejhfphalaaaGreatDoorXMulti3
import Derived.RecoverIn
/-
  Part thirty-four: a deferred function that asks recover while nothing panics: its first operation is recover; the rest is the executor's.
-/
namespace Go.X
open Go
variable {x : Cx} {e : Env} {S : AS} {w : World} {N : Nat} {f : Fr} {a : Act}

theorem opsS_ok {call : CallF} {n : Nat} {ops : Array Oper} {Q : Exit → Act → List Frame → World → Prop} {cs : List Frame} : ∀ {l : List Nat} {ol : List Oper} {s s1 : St} {e : Env} {a : Act} {w : World},
    (∀ (k : Nat), l[k]?.bind (fun i => ops[i]?) = ol[k]?) → (∀ o, o ∈ ol → ∀ c, o.op ≠ .defer c) → (∀ o, o ∈ ol → ∀ c y, o.op = .call c → c.callee ≠ .value y) →
    Rel x e s.S w → SR x e N s a → runOps x call false N ops.toList ol s = some s1 → (∀ a1 w1, Aft x e s.S w N s1 a1 w1 → Q .normal a1 cs w1) → wpOpsSIn (FF none) n x.P ops Q l a cs w
  | [], ol, s, s1, e, a, w, hl, _, _, hrel, hs, hr, hQ => by
    cases ol with
    | cons o ol => have := hl 0; simp at this
    | nil =>
      have : s = s1 := Option.some.inj hr
      subst this
      exact hQ a w ⟨e, .refl hrel, hs⟩
  | i :: l, [], s, s1, e, a, w, hl, hd, hc, hrel, hs, hr, hQ => by
    have h0 := hl 0
    simp at h0
    have : s = s1 := Option.some.inj hr
    subst this
    unfold wpOpsSIn
    have : ops[i]? = none := by simpa using h0
    rw [this]
    exact opsS_ok (l := l) (ol := []) (fun k => by have := hl (k + 1); simpa using this) hd hc hrel hs hr hQ
  | i :: l, o :: ol, s, s1, e, a, w, hl, hd, hc, hrel, hs, hr, hQ => by
    have h0 := hl 0
    simp only [List.getElem?_cons_zero, Option.bind_some] at h0
    obtain ⟨s2, h1, h2⟩ := runOps_cons hr
    unfold wpOpsSIn
    rw [h0]
    refine ⟨fun _ _ => trivial, ?_⟩
    have rest : ∀ a1 w1, Aft x e s.S w N s2 a1 w1 → wpOpsSIn (FF none) n x.P ops Q l a1 cs w1 := fun a1 w1 haft => by
      obtain ⟨e1, h3, h4, h5⟩ := haft.rel
      exact opsS_ok (l := l) (ol := ol) (fun k => by have := hl (k + 1); simpa using this) (fun o ho => hd o (by simp [ho])) (fun o ho => hc o (by simp [ho])) h3 h4 h2 fun a2 w2 h6 => hQ a2 w2 (h5 _ _ _ h6)
    unfold stepOp at h1
    split at h1
    · rename_i b hb
      have hw := wanted_ok hs.fr hb
      split at h1
      · simp only [hw, if_true]
        have hres := sem_ok hrel hs.fr o
        unfold doOp at h1
        generalize sem x s.f o.op = res at h1 hres
        cases hres with
        | pure rr hh =>
          obtain ⟨v, hv, hp⟩ := putO_inv h1
          obtain ⟨v', k1, k2⟩ := hh v hv
          obtain ⟨k3, k4⟩ := hs.put k2 hp
          rw [k1]
          exact rest _ _ ⟨e, by rw [k4]; exact .refl hrel, k3⟩
        | read g hh =>
          obtain ⟨v, hv, hp⟩ := putO_inv h1
          obtain ⟨v', k1, k2⟩ := hh v hv
          obtain ⟨k3, k4⟩ := hs.put k2 hp
          rw [k1]
          exact rest _ _ ⟨e, by rw [k4]; exact .refl hrel, k3⟩
        | write g hh =>
          obtain ⟨v, S1, hv, hp⟩ := putW_inv h1
          obtain ⟨v', e1, w1, k1, k2, k3⟩ := hh v S1 hv
          obtain ⟨k4, k5⟩ := (hs.mono k2.le).put k3 hp
          rcases k1 with k1 | ⟨k1, rfl⟩
          · rw [k1]; exact rest _ _ ⟨e1, by rw [k5]; exact k2, k4⟩
          · rw [k1]; exact rest _ _ ⟨e1, by rw [k5]; exact k2, k4⟩
        | call c y g args ho hcc hg ha => exact absurd hcc (hc o (by simp) c y ho)
        | defer c y g ho hcc hg _ => exact absurd ho (hd o (by simp) c)
        | no => cases h1
      · simp only [hw, Bool.false_eq_true, if_false]
        obtain ⟨h3, h4⟩ := hs.put .undef h1
        exact rest _ _ ⟨e, by rw [h4]; exact .refl hrel, h3⟩
    · cases h1
theorem noCall_ok : CallOK x (fun _ _ _ => none) := by
  constructor <;> (intro g args S v S1 h; cases h)
/-- a new activation's temporaries, whatever the arguments -/
theorem unk_fr {t : Array Value} : FR e t.size .leaf t ↔ ∀ i, VR e undef (t.getD i undef) := ⟨fun h => h.val, fun h => ⟨rfl, h⟩⟩
theorem grown_of {e1 : Env} {S1 : AS} {w1 : World} (h : Stp x e { heap := .leaf, next := x.G } w e1 S1 w1) : Grown w w1 :=
  ⟨h.os, h.tape, h.output, h.grow, fun b hb => h.keep b hb fun ⟨i, o, sh, hi, _⟩ => by
    have : PT.get (PT.leaf : PT AObj) i = some o := hi
    cases this⟩
end Go.X
