import Derived.Test.YtaknejhfphalaaaGreatDoorXHook3
/-
  Part thirty-five: calls whose blocks are given: a hook that leaves all other blocks alone.
-/
namespace Go.X
open Go
variable {x : Cx}

abbrev Idr : Nat → Nat → Prop := fun i j => some i = some j
theorem Rn.idr (e : Env) : Rn Idr e e := ⟨fun i j y hij hj => by cases hij; exact hj, fun _ _ h => h⟩
theorem putOuts_cons (p : Nat × AObj) (l : List (Nat × AObj)) (t : PT AObj) : putOuts (p :: l) t = putOuts l (t.set p.1 (some p.2)) := rfl
theorem dropIns_cons (p : Nat × AObj) (l : List (Nat × AObj)) (t : PT AObj) : dropIns (p :: l) t = dropIns l (t.set p.1 none) := rfl
theorem putOuts_out {i : Nat} : ∀ {l : List (Nat × AObj)} {t : PT AObj}, i ∉ l.map (·.1) → (putOuts l t).get i = t.get i
  | [], _, _ => rfl
  | p :: l, t, h => by
    rw [putOuts_cons, putOuts_out (fun hh => h (by simp [hh]))]
    exact PT.get_set_other _ _ _ _ (fun hh => h (by simp [hh]))
theorem putOuts_in {i : Nat} : ∀ {l : List (Nat × AObj)} {t t' : PT AObj}, i ∈ l.map (·.1) → (putOuts l t).get i = (putOuts l t').get i
  | [], _, _, h => by simp at h
  | p :: l, t, t', h => by
    rw [putOuts_cons, putOuts_cons]
    by_cases hl : i ∈ l.map (·.1)
    · exact putOuts_in hl
    · rw [putOuts_out hl, putOuts_out hl]
      have : i = p.1 := by simpa [hl] using h
      subst this
      rw [PT.get_set_same, PT.get_set_same]
theorem putOuts_mem {i : Nat} {o : AObj} : ∀ {l : List (Nat × AObj)} {t : PT AObj}, (putOuts l t).get i = some o → (i, o) ∈ l ∨ t.get i = some o
  | [], _, h => .inr h
  | p :: l, t, h => by
    rw [putOuts_cons] at h
    rcases putOuts_mem h with h | h
    · exact .inl (by simp [h])
    · by_cases hi : i = p.1
      · subst hi
        rw [PT.get_set_same] at h
        cases h
        exact .inl (by simp)
      · rw [PT.get_set_other _ _ _ _ hi] at h
        exact .inr h
theorem putOuts_leaf {i : Nat} {o : AObj} {l : List (Nat × AObj)} (h : (putOuts l .leaf).get i = some o) : (i, o) ∈ l := by
  rcases putOuts_mem h with h | h
  · exact h
  · cases h
theorem dropIns_out {i : Nat} : ∀ {l : List (Nat × AObj)} {t : PT AObj}, i ∉ l.map (·.1) → (dropIns l t).get i = t.get i
  | [], _, _ => rfl
  | p :: l, t, h => by
    rw [dropIns_cons, dropIns_out (fun hh => h (by simp [hh]))]
    exact PT.get_set_other _ _ _ _ (fun hh => h (by simp [hh]))
theorem dropIns_none {i : Nat} : ∀ {l : List (Nat × AObj)} {t : PT AObj}, t.get i = none → (dropIns l t).get i = none
  | [], _, h => h
  | p :: l, t, h => by
    rw [dropIns_cons]
    refine dropIns_none ?_
    by_cases hi : i = p.1
    · subst hi; exact PT.get_set_same _ _ _
    · rw [PT.get_set_other _ _ _ _ hi]; exact h
theorem dropIns_in {i : Nat} : ∀ {l : List (Nat × AObj)} {t : PT AObj}, i ∈ l.map (·.1) → (dropIns l t).get i = none
  | [], _, h => by simp at h
  | p :: l, t, h => by
    rw [dropIns_cons]
    by_cases hl : i ∈ l.map (·.1)
    · exact dropIns_in hl
    · have : i = p.1 := by simpa [hl] using h
      subst this
      exact dropIns_none (PT.get_set_same _ _ _)
theorem insOk_all {t : PT AObj} : ∀ {l : List (Nat × AObj)}, insOk t l = true → ∀ p, p ∈ l → ∃ q, t.get p.1 = some q ∧ RO Idr p.2 q
  | [], _, p, hp => by simp at hp
  | p0 :: l, h, p, hp => by
    change (match t.get p0.1 with
      | some q => match rnO some p0.2 q with
        | true => insOk t l
        | false => false
      | none => false) = true at h
    split at h
    · rename_i q hq
      split at h
      · rename_i hr
        rcases List.mem_cons.1 hp with rfl | hp
        · exact ⟨q, hq, rnO_ok hr⟩
        · exact insOk_all h p hp
      · cases h
    · cases h

/-- an entry that is proved -/
structure StOK (x : Cx) (E : StE) : Prop where
  call : ∀ e w args' n, Rel x e (insS E) w → All2 (VR e) E.args args' → CallsIn (FF none) n x.P E.g args'.toArray w (RetOK x e (insS E) w E.v (outsS E))
theorem st_ok {E : StE} {call : CallF} (hcall : CallOK x call) (h : stFits E (call (.func E.g) E.args (insS E)) = true) : StOK x E := by
  refine ⟨fun e w args' n hrel ha => ?_⟩
  unfold stFits at h
  split at h
  · cases h
  · rename_i v S hc
    split at h
    · rename_i hn
      split at h
      · rename_i hv
        have hv := rnV_ok _ _ _ hv
        refine (hcall.func E.g E.args _ v S hc e w args' n hrel ha).mono fun en w1 hen => ?_
        cases en with
        | panicked _ => exact hen.elim
        | outgrown => exact hen.elim
        | returned v' =>
          obtain ⟨e1, h1, h2⟩ := hen
          refine ⟨e1, h1.less (ble_iff.1 hn) fun i q hq => ?_, hv.vr (Rn.idr e1) v' h2⟩
          obtain ⟨p, h3, h4⟩ := insOk_all h (i, q) (putOuts_leaf hq)
          exact ⟨p, h3, .inr h4⟩
      · cases h
    · cases h
/-- less may be known at the start -/
theorem Rel.less {e : Env} {S S2 : AS} {w : World} (h : Rel x e S w) (hn : S2.next = S.next) (hg : ∀ i q, S2.heap.get i = some q → ∃ p, S.heap.get i = some p ∧ RO Idr q p) : Rel x e S2 w := by
  refine ⟨fun i hi => h.fresh i (by omega), fun i hi => ?_, by rw [hn]; exact h.next, fun i o ho => ?_, fun i j o o' b sh sh' hi hj hbi hbj => ?_, h.size, h.bnd, h.glob, h.gval, h.gsz⟩
  · cases hq : S2.heap.get i with
    | none => rfl
    | some q =>
      obtain ⟨p, h1, _⟩ := hg i q hq
      rw [h.low i hi] at h1; cases h1
  · obtain ⟨p, h1, h2⟩ := hg i o ho
    obtain ⟨b, sh, o', h3, h4, h5, h6⟩ := h.obj i p h1
    exact ⟨b, sh, o', h3, h4, h2.objR (Rn.idr e) h5, h6⟩
  · obtain ⟨p, h1, _⟩ := hg i o hi
    obtain ⟨q, h2, _⟩ := hg j o' hj
    exact h.inj i j p q b sh sh' h1 h2 hbi hbj
/-- all other blocks stay -/
theorem Stp.frame {e e1 : Env} {S S2 S3 S4 : AS} {w w1 : World} (hrel : Rel x e S w) (h : Stp x e S2 w e1 S3 w1) (hn : S2.next = S.next) (hg : ∀ i q, S2.heap.get i = some q → ∃ p, S.heap.get i = some p) (hn4 : S4.next = S3.next)
    (h4 : ∀ i q, S4.heap.get i = some q → S3.heap.get i = some q ∨ (S.heap.get i = some q ∧ S2.heap.get i = none)) : Stp x e S w e1 S4 w1 := by
  have notin : ∀ {i b sh q}, S.heap.get i = some q → S2.heap.get i = none → e.blk i = some (b, sh) → ¬ liesIn S2 e b := by
    rintro i b sh q hi hi2 hb ⟨j, o, sh', hj, hbj⟩
    obtain ⟨p, hp⟩ := hg j o hj
    have := hrel.inj i j q p b sh sh' hi hp hb hbj
    subst this
    rw [hi2] at hj; cases hj
  have sub : ∀ {b}, liesIn S2 e b → liesIn S e b := by
    rintro b ⟨j, o, sh, hj, hbj⟩
    obtain ⟨p, hp⟩ := hg j o hj
    exact ⟨j, p, sh, hp, hbj⟩
  refine ⟨⟨fun i hi => h.rel.fresh i (by omega), fun i hi => ?_, by rw [hn4]; exact h.rel.next, fun i o ho => ?_, fun i j o o' b sh sh' hi hj hbi hbj => ?_, h.rel.size, h.rel.bnd, h.rel.glob, h.rel.gval, h.rel.gsz⟩, h.le, h.os, h.tape, h.output, h.grow,
    fun b hb hl => h.keep b hb fun hh => hl (sub hh), fun b hb hl => ?_, by have := h.next; omega, fun i hi hb => h.old i (by omega) hb⟩
  · cases hq : S4.heap.get i with
    | none => rfl
    | some q =>
      rcases h4 i q hq with h1 | ⟨h1, _⟩
      · rw [h.rel.low i hi] at h1; cases h1
      · rw [hrel.low i hi] at h1; cases h1
  · rcases h4 i o ho with h1 | ⟨h1, h2⟩
    · exact h.rel.obj i o h1
    · obtain ⟨b, sh, o', h3, h5, h6, h7⟩ := hrel.obj i o h1
      have hlt := hrel.bnd i b sh h3
      exact ⟨b, sh, o', h.le.blk _ _ h3, by rw [h.keep b hlt (notin h1 h2 h3)]; exact h5, h6.mono h.le, h7⟩
  · -- two blocks
    have frame : ∀ {k q c s}, S.heap.get k = some q → e1.blk k = some (c, s) → e.blk k = some (c, s) := fun {k q c s} hk hc => by
      obtain ⟨b0, sh0, _, h3, _⟩ := hrel.obj k q hk
      have := h.le.blk _ _ h3
      rw [hc] at this; cases this; exact h3
    have mixed : ∀ {k m q r c s s'}, S3.heap.get k = some q → S.heap.get m = some r → S2.heap.get m = none → e1.blk k = some (c, s) → e1.blk m = some (c, s') → False := fun {k m q r c s s'} hk hm hm2 hbk hbm => by
      have hbm' := frame hm hbm
      exact notin hm hm2 hbm' (h.live c (hrel.bnd _ _ _ hbm') ⟨k, q, s, hk, hbk⟩)
    rcases h4 i o hi with h1 | ⟨h1, h1'⟩ <;> rcases h4 j o' hj with h2 | ⟨h2, h2'⟩
    · exact h.rel.inj i j o o' b sh sh' h1 h2 hbi hbj
    · exact (mixed h1 h2 h2' hbi hbj).elim
    · exact (mixed h2 h1 h1' hbj hbi).elim
    · exact hrel.inj i j o o' b sh sh' h1 h2 (frame h1 hbi) (frame h2 hbj)
  · obtain ⟨i, o, sh, hi, hbi⟩ := hl
    rcases h4 i o hi with h1 | ⟨h1, _⟩
    · exact sub (h.live b hb ⟨i, o, sh, h1, hbi⟩)
    · obtain ⟨b0, sh0, _, h3, _⟩ := hrel.obj i o h1
      have := h.le.blk _ _ h3
      rw [hbi] at this; cases this
      exact ⟨i, o, sh, h1, h3⟩
theorem stR_ok {E : StE} (hE : StOK x E) {e : Env} {S : AS} {w : World} {args args' : List Value} {n : Nat} (hrel : Rel x e S w) (ha : All2 (VR e) args args') (hn : E.n = S.next) (hargs : allEq (rnV some 9) E.args args = true) (hins : insOk S.heap E.ins = true) :
    CallsIn (FF none) n x.P E.g args'.toArray w (RetOK x e S w (stR E S).1 (stR E S).2) := by
  have hin := insOk_all hins
  have hsub : ∀ i q, (insS E).heap.get i = some q → ∃ p, S.heap.get i = some p ∧ RO Idr q p := fun i q hq => by
    obtain ⟨p, h1, h2⟩ := hin (i, q) (putOuts_leaf hq)
    exact ⟨p, h1, h2⟩
  have hargs' : All2 (VR e) E.args args' := All2.comp (fun u v v' (h1 : RV Idr u v) h2 => h1.vr (Rn.idr e) v' h2) (allEq_all2 (fun u v h => rnV_ok 9 u v h) _ _ hargs) ha
  refine (hE.call e w args' n (hrel.less hn hsub) hargs').mono fun en w1 hen => ?_
  cases en with
  | panicked _ => exact hen.elim
  | outgrown => exact hen.elim
  | returned v' =>
    obtain ⟨e1, h1, h2⟩ := hen
    refine ⟨e1, Stp.frame hrel h1 hn (fun i q hq => let ⟨p, h3, _⟩ := hsub i q hq; ⟨p, h3⟩) rfl fun i q hq => ?_, h2⟩
    have hq : (putOuts E.outs (dropIns E.ins S.heap)).get i = some q := hq
    by_cases ho : i ∈ E.outs.map (·.1)
    · rw [putOuts_in (t' := .leaf) ho] at hq
      exact .inl hq
    · rw [putOuts_out ho] at hq
      by_cases hi : i ∈ E.ins.map (·.1)
      · rw [dropIns_in hi] at hq; cases hq
      · rw [dropIns_out hi] at hq
        refine .inr ⟨hq, ?_⟩
        show (putOuts E.ins .leaf).get i = none
        rw [putOuts_out hi]; rfl
theorem hookT_ok : ∀ {ss : List StE}, (∀ E, E ∈ ss → StOK x E) → ∀ g args S v S1, hookT ss g args S = some (v, S1) → ∀ e w args' n, Rel x e S w → All2 (VR e) args args' → CallsIn (FF none) n x.P g args'.toArray w (RetOK x e S w v S1)
  | [], _, g, args, S, v, S1, h => by cases h
  | E :: ss, hl, g, args, S, v, S1, h => by
    have ih := hookT_ok (ss := ss) (fun F hF => hl F (by simp [hF])) g args S v S1
    change (match Nat.beq E.g g with
      | true => match Nat.beq E.n S.next with
        | true => match allEq (rnV some 9) E.args args with
          | true => match insOk S.heap E.ins with
            | true => some (stR E S)
            | false => hookT ss g args S
          | false => hookT ss g args S
        | false => hookT ss g args S
      | false => hookT ss g args S) = some (v, S1) at h
    split at h
    · rename_i h1
      split at h
      · rename_i h2
        split at h
        · rename_i h3
          split at h
          · rename_i h4
            have hg := beq_iff.1 h1
            subst hg
            have e1 : v = (stR E S).1 := by rw [Option.some.inj h]
            have e2 : S1 = (stR E S).2 := by rw [Option.some.inj h]
            rw [e1, e2]
            intro e w args' n hrel ha
            exact stR_ok (hl E (by simp)) hrel ha (beq_iff.1 h2) h3 h4
          · exact ih h
        · exact ih h
      · exact ih h
    · exact ih h
/-- A HOOK OF BOTH KINDS OF ENTRIES THAT ARE PROVED. -/
theorem hookA_ok {hs : List Entry} {ss : List StE} (h1 : ∀ E, E ∈ hs → EntryOK x E) (h2 : ∀ E, E ∈ ss → StOK x E) : HookOK x (hookA x.G hs ss) := by
  refine ⟨fun g args S v S1 h => ?_⟩
  change (match hookT ss g args S with
    | some r => some r
    | none => hookOf x.G hs g args S) = some (v, S1) at h
  split at h
  · rename_i r hr
    cases h
    exact hookT_ok h2 g args S v S1 hr
  · exact (hookF_ok h1).func g args S v S1 h
theorem st_sound (hx : CxOK x) (hq : QuietOK x) {hs : List Entry} {ss : List StE} (hh : ∀ E, E ∈ hs → EntryOK x E) (h2 : ∀ E, E ∈ ss → StOK x E) {k : Nat} {E : StE} (h : stOk x hs ss k E = true) : StOK x E :=
  st_ok (xcall_sound hx hq (hookA_ok hh h2) k) h
end Go.X
/-
  Part thirty-six: a function that tests a bool of which nothing is known.
-/
namespace Go.X
open Go
variable {x : Cx} {e : Env} {S : AS} {w : World} {N : Nat} {f : Fr} {a : Act}

noncomputable def setB (s : St) (t : Nat) (b : Bool) : St := { s with f := s.f.set t (some (.bool b)) }
noncomputable def endF (x : Cx) (call : CallF) (n : Nat) (fn : Func) (r : Option (XE × St)) : Option (Value × AS) :=
  match r with
  | some r => endM x (dcall x call n) fn r
  | none => none
noncomputable def saysTrue (r : Option (Value × AS)) : Bool :=
  match r with
  | some (.bool b, _) => b
  | _ => false
theorem SR.setB {s : St} {t : Nat} {b : Bool} (h : SR x e N s a) (ht : tmp0 s.f t = .bool b) : SR x e N (setB s t b) a := by
  refine ⟨⟨h.fr.size, fun i => ?_⟩, h.ds⟩
  show VR e (tmp0 (s.f.set t (some (.bool b))) i) _
  have hv := h.fr.val i
  by_cases hi : i = t
  · subst hi
    have : tmp0 (s.f.set i (some (.bool b))) i = .bool b := by simp [tmp0, PT.get_set_same]
    rw [this, ← ht]; exact hv
  · have : tmp0 (s.f.set t (some (.bool b))) i = tmp0 s.f i := by simp [tmp0, PT.get_set_other _ _ _ _ hi]
    rw [this]; exact hv
/-- three stretches of code, one after the other -/
noncomputable def run1 (x : Cx) (call : CallF) (N k : Nat) (c : Code) (s : St) : Option St :=
  match xcode x call false N k c s with
  | some (.normal, s1) => some s1
  | _ => none
noncomputable def run3 (x : Cx) (call : CallF) (N k : Nat) (p0 p1 p2 : Code) (s : St) : Option St :=
  match run1 x call N k p0 s with
  | some s => match run1 x call N k p1 s with
    | some s => run1 x call N k p2 s
    | none => none
  | none => none
theorem run1_ok {call : CallF} {k : Nat} {c : Code} {s s1 : St} (h : run1 x call N k c s = some s1) : xcode x call false N k c s = some (.normal, s1) := by
  unfold run1 at h
  split at h
  · rename_i s2 h2; cases h; exact h2
  · cases h
noncomputable def run2 (x : Cx) (call : CallF) (N k : Nat) (p3 rest : Code) (s : St) : Option (XE × St) :=
  match xcode x call false N k p3 s with
  | some (.normal, s) => xcode x call false N k rest s
  | r => r
theorem split_ok (hx : CxOK x) (hq : QuietOK x) {call : CallF} (hcall : CallOK x call) {k n : Nat} {g : Nat} {fn : Func} {p0 p1 p2 p3 rest : Code} (hf : x.P.funcs[g]? = some fn) (hb : fn.body = some (.seq p0 (.seq p1 (.seq (.seq p2 p3) rest))))
    {args args' : List Value} (hrel : Rel x e S w) (ha : All2 (VR e) args args') {s1 : St} {t : Nat} {b0 : Bool}
    (h1 : run3 x call (Nat.max args.length fn.ntmps) k p0 p1 p2 { f := enterF 0 args .leaf, ds := [], S := S } = some s1) (ht : tmp0 s1.f t = .bool b0)
    (h2 : ∀ b, saysTrue (endF x call k fn (run2 x call (Nat.max args.length fn.ntmps) k p3 rest (setB s1 t b))) = true) :
    CallsIn (FF none) n x.P g args'.toArray w (fun en w1 => ∃ S1, RetOK x e S w (.bool true) S1 en w1) := by
  refine callsIn_of_wp_marks hf hb trivial ?_
  have hdraw : ∀ n N, DrawOK x call none n N := fun n N => draw_ok hx hcall none n N
  unfold run3 at h1
  split at h1
  case h_2 => cases h1
  rename_i sa ha1
  split at h1
  case h_2 => cases h1
  rename_i sb hb1
  have step : ∀ {c : Code} {s s' : St} {e : Env} {a : Act} {w : World} {Q : Exit → Act → World → Prop}, run1 x call (Nat.max args.length fn.ntmps) k c s = some s' → Rel x e s.S w → SR x e (Nat.max args.length fn.ntmps) s a →
      (∀ a1 w1, Aft x e s.S w (Nat.max args.length fn.ntmps) s' a1 w1 → Q .normal a1 w1) → c.wpIn (FF none) n x.P Q a w := fun {c s s' e a w Q} hr hrel hs hQ =>
    (xcode_ok hx hcall (r := none) (n := n) (hdraw _ _) (rangeF_ok hcall hx) k).1 c .normal s s' e a w Q hrel hs (run1_ok hr) hQ
  refine wpIn_seq (step ha1 (s := { f := enterF 0 args .leaf, ds := [], S := S }) hrel ⟨enter_ok ha fn.ntmps, trivial⟩ fun a1 w1 ⟨e1, g1, g2⟩ => ?_)
  refine wpIn_seq (step hb1 g1.rel g2 fun a2 w2 ⟨e2, g3, g4⟩ => ?_)
  refine wpIn_seq (wpIn_seq (step h1 g3.rel g4 fun a3 w3 ⟨e3, g5, g6⟩ => ?_))
  have hall := (g1.trans g3).trans g5
  have h3 := h2 b0
  unfold saysTrue at h3
  split at h3
  · rename_i b S2 hrun
    subst h3
    unfold endF at hrun
    split at hrun
    · rename_i r hr
      have fin : ∀ a2 w2, Aft x e3 s1.S w3 (Nat.max args.length fn.ntmps) r.2 a2 w2 → bodyPostM (FF none) n x.P fn (fun en w1 => ∃ S1, RetOK x e S w (.bool true) S1 en w1) (exOf r.1) a2 w2 := fun a2 w2 haft2 =>
        endM_ok (e := e3) (S := s1.S) (w := w3) hx hq (dcall_ok hx hcall hdraw (fun n N => rangeF_ok hcall hx)) hrun (p := r) haft2 fun v' w4 e4 k1 k2 => ⟨S2, e4, hall.trans k1, k2⟩
      unfold run2 at hr
      split at hr
      · rename_i s4 h4
        refine (xcode_ok hx hcall (r := none) (n := n) (hdraw _ _) (rangeF_ok hcall hx) k).1 p3 .normal (setB s1 t b0) s4 e3 a3 w3 _ g5.rel (g6.setB ht) h4 fun a4 w4 ⟨e4, g7, g8⟩ => ?_
        obtain ⟨ex, s5⟩ := r
        refine (xcode_ok hx hcall (r := none) (n := n) (hdraw _ _) (rangeF_ok hcall hx) k).1 rest ex s4 s5 e4 a4 w4 _ g7.rel g8 hr fun a5 w5 ⟨e5, g9, g10⟩ => ?_
        exact fin a5 w5 ⟨e5, g7.trans g9, g10⟩
      · rename_i hne
        obtain ⟨ex, s5⟩ := r
        refine (xcode_ok hx hcall (r := none) (n := n) (hdraw _ _) (rangeF_ok hcall hx) k).1 p3 ex (setB s1 t b0) s5 e3 a3 w3 _ g5.rel (g6.setB ht) hr fun a4 w4 haft4 => ?_
        have := fin a4 w4 haft4
        cases ex with
        | normal => exact (hne s5 hr).elim
        | exit id => exact this
        | ret => exact this
    · cases hrun
  · cases h3
end Go.X
