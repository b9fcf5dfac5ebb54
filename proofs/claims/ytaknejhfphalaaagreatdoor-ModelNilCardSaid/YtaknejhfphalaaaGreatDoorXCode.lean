import Derived.Test.YtaknejhfphalaaaGreatDoorXRun
import Derived.LoopNIn
/-
  Part seventeen: code.
-/
namespace Go.X
open Go
variable {x : Cx} {e : Env} {S : AS} {w : World} {N : Nat} {f : Fr} {a : Act}

theorem Aft.rel {s1 : St} {a1 : Act} {w1 : World} (h : Aft x e S w N s1 a1 w1) : ∃ e1, Rel x e1 s1.S w1 ∧ SR x e1 N s1 a1 ∧ ∀ s2 a2 w2, Aft x e1 s1.S w1 N s2 a2 w2 → Aft x e S w N s2 a2 w2 := by
  obtain ⟨e1, h1, h2⟩ := h
  exact ⟨e1, h1.rel, h2, fun s2 a2 w2 ⟨e2, h3, h4⟩ => ⟨e2, h1.trans h3, h4⟩⟩
theorem runOps_cons {call : CallF} {rnd : Bool} {ops : List Oper} {o : Oper} {l : List Oper} {s s1 : St} (h : runOps x call rnd N ops (o :: l) s = some s1) :
    ∃ s2, stepOp x call rnd N ops s o = some s2 ∧ runOps x call rnd N ops l s2 = some s1 := by
  have h' : Option.rec (motive := fun _ => Option St) none (fun s => runOps x call rnd N ops l s) (stepOp x call rnd N ops s o) = some s1 := h
  cases hs : stepOp x call rnd N ops s o with
  | none => rw [hs] at h'; cases h'
  | some s2 => rw [hs] at h'; exact ⟨s2, rfl, h'⟩
theorem runOps_ok (hx : CxOK x) {call : CallF} (hcall : CallOK x call) {r : Option Nat} {n : Nat} {ops : Array Oper} {Q : Exit → Act → World → Prop} : ∀ {l : List Oper} {s s1 : St} {e : Env} {a : Act} {w : World},
    Rel x e s.S w → SR x e N s a → runOps x call r.isSome N ops.toList l s = some s1 → (∀ a1 w1, Aft x e s.S w N s1 a1 w1 → Q .normal a1 w1) → wpListIn (FF r) n x.P ops Q l a w
  | [], s, s1, e, a, w, hrel, hs, hr, hQ => by
    have : s = s1 := Option.some.inj hr
    subst this
    exact hQ a w ⟨e, .refl hrel, hs⟩
  | o :: l, s, s1, e, a, w, hrel, hs, hr, hQ => by
    obtain ⟨s2, h1, h2⟩ := runOps_cons hr
    unfold stepOp at h1
    have rest : ∀ a1 w1, Aft x e s.S w N s2 a1 w1 → wpListIn (FF r) n x.P ops Q l a1 w1 := fun a1 w1 haft => by
      obtain ⟨e1, h3, h4, h5⟩ := haft.rel
      exact runOps_ok hx hcall h3 h4 h2 fun a2 w2 h6 => hQ a2 w2 (h5 _ _ _ h6)
    split at h1
    · rename_i b hb
      have hw := wanted_ok hs.fr hb
      split at h1
      · simp only [wpListIn, hw, if_true]
        exact doOp_ok hx hcall hrel hs h1 rest
      · simp only [wpListIn, hw, Bool.false_eq_true, if_false]
        obtain ⟨h3, h4⟩ := hs.put .undef h1
        exact ⟨fun _ _ => trivial, rest _ _ ⟨e, by rw [h4]; exact .refl hrel, h3⟩⟩
    · cases h1
def exOf : XE → Exit
  | .normal => .normal
  | .exit id => .exit id
  | .ret => .ret
/-- what is asked of a region whose order is drawn -/
def DrawOK (x : Cx) (call : CallF) (r : Option Nat) (n N : Nat) : Prop := ∀ (id : Nat) (ops : Array Oper) (s s1 : St) (e : Env) (a : Act) (w : World) (Q : Exit → Act → World → Prop),
  Rel x e s.S w → SR x e N s a → drawOps x call r.isSome N ops.toList s = some s1 → (∀ a1 w1, Aft x e s.S w N s1 a1 w1 → Q .normal a1 w1) → (Code.region id ops true).wpIn (FF r) n x.P Q a w
/-- what is asked of a loop over a function -/
def RangeOK (x : Cx) (call : CallF) (r : Option Nat) (n N : Nat) : Prop := ∀ (g : Operand) (ps : Array Tmp) (assign body : Code) (ex : XE) (s s1 : St) (e : Env) (a : Act) (w : World) (Q : Exit → Act → World → Prop),
  Rel x e s.S w → SR x e N s a → rangeF x call r.isSome N g ps.toList assign body s = some (ex, s1) → (∀ a1 w1, Aft x e s.S w N s1 a1 w1 → Q (exOf ex) a1 w1) → (Code.rangeFunc g ps assign body).wpIn (FF r) n x.P Q a w
theorem xcode_ok (hx : CxOK x) {call : CallF} (hcall : CallOK x call) {r : Option Nat} {n : Nat} (hdraw : DrawOK x call r n N) (hrange : RangeOK x call r n N) : ∀ (k : Nat),
    (∀ (c : Code) (ex : XE) (s s1 : St) (e : Env) (a : Act) (w : World) (Q : Exit → Act → World → Prop), Rel x e s.S w → SR x e N s a → xcode x call r.isSome N k c s = some (ex, s1) →
      (∀ a1 w1, Aft x e s.S w N s1 a1 w1 → Q (exOf ex) a1 w1) → c.wpIn (FF r) n x.P Q a w) ∧
    (∀ (c : Code) (ex : XE) (s s1 : St) (e : Env) (a : Act) (w : World) (Q : Exit → Act → World → Prop), Rel x e s.S w → SR x e N s a → xcode x call r.isSome N k (.loop c) s = some (ex, s1) →
      (∀ a1 w1, Aft x e s.S w N s1 a1 w1 → Q (exOf ex) a1 w1) → Code.roundsIn (FF r) n x.P c Q k a w)
  | 0 => by constructor <;> (intro c ex s s1 e a w Q _ _ h _; cases h)
  | k + 1 => by
    obtain ⟨ihc, ihl⟩ := xcode_ok hx hcall hdraw hrange k
    have rounds : ∀ (c : Code) (ex : XE) (s s1 : St) (e : Env) (a : Act) (w : World) (Q : Exit → Act → World → Prop), Rel x e s.S w → SR x e N s a → xcode x call r.isSome N (k + 1) (.loop c) s = some (ex, s1) →
        (∀ a1 w1, Aft x e s.S w N s1 a1 w1 → Q (exOf ex) a1 w1) → Code.roundsIn (FF r) n x.P c Q (k + 1) a w := by
      intro c ex s s1 e a w Q hrel hs h hQ
      change (match xcode x call r.isSome N k c s with
        | some (.normal, s) => xcode x call r.isSome N k (.loop c) s
        | r => r) = some (ex, s1) at h
      rw [roundsIn_succ]
      split at h
      · rename_i s2 h2
        refine ihc c .normal s s2 e a w _ hrel hs h2 fun a1 w1 haft => ?_
        obtain ⟨e1, h3, h4, h5⟩ := haft.rel
        exact ihl c ex s2 s1 e1 a1 w1 Q h3 h4 h fun a2 w2 h6 => hQ a2 w2 (h5 _ _ _ h6)
      · rename_i hne
        refine ihc c ex s s1 e a w _ hrel hs h fun a1 w1 haft => ?_
        have := hQ a1 w1 haft
        cases ex with
        | normal => exact absurd h (hne s1)
        | exit id => exact this
        | ret => exact this
    refine ⟨?_, rounds⟩
    intro c ex s s1 e a w Q hrel hs h hQ
    have stay : s = s1 → Aft x e s.S w N s1 a w := fun hh => by subst hh; exact ⟨e, .refl hrel, hs⟩
    cases c with
    | skip => cases h; exact wpIn_skip (hQ a w (stay rfl))
    | label l => cases h; exact wpIn_label (hQ a w (stay rfl))
    | exit id => cases h; exact wpIn_exit (hQ a w (stay rfl))
    | ret => cases h; exact wpIn_ret (hQ a w (stay rfl))
    | seq p q =>
      change (match xcode x call r.isSome N k p s with
        | some (.normal, s) => xcode x call r.isSome N k q s
        | r => r) = some (ex, s1) at h
      refine wpIn_seq ?_
      split at h
      · rename_i s2 h2
        refine ihc p .normal s s2 e a w _ hrel hs h2 fun a1 w1 haft => ?_
        obtain ⟨e1, h3, h4, h5⟩ := haft.rel
        exact ihc q ex s2 s1 e1 a1 w1 Q h3 h4 h fun a2 w2 h6 => hQ a2 w2 (h5 _ _ _ h6)
      · rename_i hne
        refine ihc p ex s s1 e a w _ hrel hs h fun a1 w1 haft => ?_
        have := hQ a1 w1 haft
        cases ex with
        | normal => exact absurd h (hne s1)
        | exit id => exact this
        | ret => exact this
    | cond c p q =>
      change (match ev x s.f c with
        | .bool t => match t with
          | true => xcode x call r.isSome N k p s
          | false => xcode x call r.isSome N k q s
        | _ => none) = some (ex, s1) at h
      have hv := ev_ok hrel hs.fr c
      split at h
      · rename_i t ht
        rw [ht] at hv
        have hb := hv.bool_inv
        split at h
        · exact wpIn_cond_true hb (ihc p ex s s1 e a w Q hrel hs h hQ)
        · exact wpIn_cond_false hb (ihc q ex s s1 e a w Q hrel hs h hQ)
      · cases h
    | block id c =>
      change (match xcode x call r.isSome N k c s with
        | some (.exit i, s) => match Nat.beq i id with
          | true => some (.normal, s)
          | false => some (.exit i, s)
        | r => r) = some (ex, s1) at h
      refine wpIn_block ?_
      split at h
      · rename_i i s2 h2
        refine ihc c (.exit i) s s2 e a w _ hrel hs h2 fun a1 w1 haft => ?_
        split at h
        · rename_i hid
          cases h
          have := beq_iff.1 hid; subst this
          show (if i = i then Q .normal a1 w1 else Q (.exit i) a1 w1)
          rw [if_pos rfl]; exact hQ a1 w1 haft
        · rename_i hid
          cases h
          have : ¬ i = id := fun hh => by rw [beq_iff.2 hh] at hid; cases hid
          show (if i = id then Q .normal a1 w1 else Q (.exit i) a1 w1)
          rw [if_neg this]; exact hQ a1 w1 haft
      · rename_i hne
        refine ihc c ex s s1 e a w _ hrel hs h fun a1 w1 haft => ?_
        have := hQ a1 w1 haft
        cases ex with
        | normal => exact this
        | exit i => exact absurd h (hne i s1)
        | ret => exact this
    | loop c => exact wpIn_loop_rounds (k + 1) (rounds c ex s s1 e a w Q hrel hs h hQ)
    | region id ops draw =>
      cases draw with
      | false =>
        change (match runOps x call r.isSome N ops.toList ops.toList s with
          | some s => some (XE.normal, s)
          | none => none) = some (ex, s1) at h
        split at h
        · rename_i s2 h2
          cases h
          exact wpIn_region_list (runOps_ok hx hcall hrel hs h2 hQ)
        · cases h
      | true =>
        change (match drawOps x call r.isSome N ops.toList s with
          | some s => some (XE.normal, s)
          | none => none) = some (ex, s1) at h
        split at h
        · rename_i s2 h2
          cases h
          exact hdraw id ops s _ e a w Q hrel hs h2 hQ
        · cases h
    | rangeFunc g ps assign body => exact hrange g ps assign body ex s s1 e a w Q hrel hs h hQ
    | _ => cases h
end Go.X
