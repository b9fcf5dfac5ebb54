import Derived.Test.YtofffmieimggmaaGreatDoorXMulti1
/-
  Part thirty-one: code outcome by outcome; what the outcomes have in common.
-/
namespace Go.X
open Go
variable {x : Cx} {e : Env} {S : AS} {w : World} {N : Nat} {f : Fr} {a : Act}

theorem bindL_ok {α β : Type} {p : α → Option (List β)} : ∀ {l : List α} {r : List β}, bindL p l = some r → ∀ b, b ∈ l → ∃ s, p b = some s ∧ ∀ c, c ∈ s → c ∈ r
  | [], _, _, b, hb => by simp at hb
  | b0 :: l, r, h, b, hb => by
    change (match p b0 with
      | some r => match bindL p l with
        | some s => some (r ++ s)
        | none => none
      | none => none) = some r at h
    split at h
    · rename_i r0 h0
      split at h
      · rename_i s h1
        cases h
        rcases List.mem_cons.1 hb with rfl | hb
        · exact ⟨r0, h0, fun c hc => List.mem_append_left _ hc⟩
        · obtain ⟨s2, h2, h3⟩ := bindL_ok h1 b hb
          exact ⟨s2, h2, fun c hc => List.mem_append_right _ (h3 c hc)⟩
      · cases h
    · cases h
theorem oneL_ok {α : Type} {a : Option α} {l : List α} (h : oneL a = some l) : ∃ b, a = some b ∧ l = [b] := by
  unfold oneL at h
  split at h
  · rename_i b; cases h; exact ⟨b, rfl, rfl⟩
  · cases h
theorem putAll_ok {s : St} {dst : Option Nat} : ∀ {l : List (Value × AS)} {r : List St}, putAll N s dst l = some r → ∀ p, p ∈ l → ∃ s1, s.put N dst p.1 p.2 = some s1 ∧ s1 ∈ r
  | [], _, _, p, hp => by simp at hp
  | p0 :: l, r, h, p, hp => by
    change (match s.put N dst p0.1 p0.2 with
      | some s1 => match putAll N s dst l with
        | some r => some (s1 :: r)
        | none => none
      | none => none) = some r at h
    split at h
    · rename_i s1 h1
      split at h
      · rename_i r1 h2
        cases h
        rcases List.mem_cons.1 hp with rfl | hp
        · exact ⟨s1, h1, by simp⟩
        · obtain ⟨s2, h3, h4⟩ := putAll_ok h2 p hp
          exact ⟨s2, h3, by simp [h4]⟩
      · cases h
    · cases h
/-- the goal of an operation, guarded or not -/
def OpGoal (x : Cx) (r : Option Nat) (n : Nat) (ops : Array Oper) (o : Oper) (a : Act) (w : World) (K : Act → World → Prop) (Q : Exit → Act → World → Prop) : Prop :=
  if Region.wanted o (yielded ops a.tmps) then o.wpIn (FF r) n x.P a w K Q else (∀ f, o.about x.P w a.eval = some f → (FF r).fn f) ∧ K (a.put o.dst undef) w
theorem stepOp_ok (hx : CxOK x) {call : CallF} (hcall : CallOK x call) {r : Option Nat} {n : Nat} {ops : Array Oper} {o : Oper} {s s1 : St} (hrel : Rel x e s.S w) (hs : SR x e N s a) (h : stepOp x call r.isSome N ops.toList s o = some s1)
    {K : Act → World → Prop} {Q : Exit → Act → World → Prop} (hK : ∀ a1 w1, Aft x e s.S w N s1 a1 w1 → K a1 w1) : OpGoal x r n ops o a w K Q := by
  unfold OpGoal
  unfold stepOp at h
  split at h
  · rename_i b hb
    have hw := wanted_ok hs.fr hb
    split at h
    · simp only [hw, if_true]
      exact doOp_ok hx hcall hrel hs h hK
    · simp only [hw, Bool.false_eq_true, if_false]
      obtain ⟨h3, h4⟩ := hs.put .undef h
      exact ⟨fun _ _ => trivial, hK _ _ ⟨e, by rw [h4]; exact .refl hrel, h3⟩⟩
  · cases h
theorem out_op {r : Option Nat} {n : Nat} {ops : Array Oper} {o : Oper} {s s1 : St} (hs : SR x e N s a) (hg : o.guard = none) {sm : Sem Value} (ho : execOp a.eval o = valueOf sm) {p : Value × AS} (hp : Out x e s.S w sm p)
    (hput : s.put N o.dst p.1 p.2 = some s1) {K : Act → World → Prop} {Q : Exit → Act → World → Prop} (hK : ∀ a1 w1, Aft x e s.S w N s1 a1 w1 → K a1 w1) : OpGoal x r n ops o a w K Q := by
  unfold OpGoal
  have hw : Region.wanted o (yielded ops a.tmps) = true := by unfold Region.wanted; rw [hg]
  simp only [hw, if_true]
  obtain ⟨v', e1, w1, h1, h2, h3⟩ := hp
  obtain ⟨h4, h5⟩ := (hs.mono h2.le).put h3 hput
  exact upon_value (v := v') (w1 := w1) (by rw [ho]; simp [valueOf, h1]) (hK _ _ ⟨e1, by rw [h5]; exact h2, h4⟩)
theorem stepM_ok (hx : CxOK x) {call : CallF} (hcall : CallOK x call) {r : Option Nat} {n : Nat} {ops : Array Oper} {o : Oper} {s : St} {l : List St} (hrel : Rel x e s.S w) (hs : SR x e N s a) (h : stepM x call r.isSome N ops.toList s o = some l)
    {K : Act → World → Prop} {Q : Exit → Act → World → Prop} (hK : ∀ s1, s1 ∈ l → ∀ a1 w1, Aft x e s.S w N s1 a1 w1 → K a1 w1) : OpGoal x r n ops o a w K Q := by
  have single : ∀ {g : Option St}, oneL g = some l → (∀ s1, g = some s1 → (∀ a1 w1, Aft x e s.S w N s1 a1 w1 → K a1 w1) → OpGoal x r n ops o a w K Q) → OpGoal x r n ops o a w K Q := fun {g} hg hh => by
    obtain ⟨s1, h1, rfl⟩ := oneL_ok hg
    exact hh s1 h1 (hK s1 (by simp))
  unfold stepM at h
  split at h
  · exact single h fun s1 h1 hk => stepOp_ok hx hcall hrel hs h1 hk
  · rename_i hg
    split at h
    · rename_i t y ho
      refine single h fun s1 h1 hk => ?_
      obtain ⟨v, S1, h2, h3⟩ := putW_inv h1
      exact out_op hs hg (sm := Instr.range t (a.eval y)) (by unfold execOp; rw [ho]) (rangeV_ok hrel (ev_ok hrel hs.fr y) h2) h3 hk
    · rename_i it b ho
      split at h
      · cases h
      · unfold putAllO at h
        split at h
        · rename_i l2 hl2
          obtain ⟨p, hp1, hp2⟩ := nextV_ok hrel (ev_ok hrel hs.fr it) hl2 o.type
          obtain ⟨s1, h3, h4⟩ := putAll_ok h p hp1
          exact out_op hs hg (sm := Instr.next (a.eval it) false o.type) (by unfold execOp; rw [ho]) hp2 h3 (hK s1 h4)
        · cases h
    · rename_i it ho
      refine single h fun s1 h1 hk => ?_
      obtain ⟨v, S1, h2, h3⟩ := putW_inv h1
      exact out_op hs hg (sm := Instr.entry (a.eval it)) (by unfold execOp; rw [ho]) (entryV_ok hrel (ev_ok hrel hs.fr it) h2) h3 hk
    · exact single h fun s1 h1 hk => stepOp_ok hx hcall hrel hs h1 hk
theorem runM_ok (hx : CxOK x) {call : CallF} (hcall : CallOK x call) {r : Option Nat} {n : Nat} {ops : Array Oper} {Q : Exit → Act → World → Prop} : ∀ {l : List Oper} {s : St} {r1 : List St} {e : Env} {a : Act} {w : World},
    Rel x e s.S w → SR x e N s a → runM x call r.isSome N ops.toList l s = some r1 → (∀ s1, s1 ∈ r1 → ∀ a1 w1, Aft x e s.S w N s1 a1 w1 → Q .normal a1 w1) → wpListIn (FF r) n x.P ops Q l a w
  | [], s, r1, e, a, w, hrel, hs, hr, hQ => by
    have hr : some [s] = some r1 := hr
    cases hr
    exact hQ s (by simp) a w ⟨e, .refl hrel, hs⟩
  | o :: l, s, r1, e, a, w, hrel, hs, hr, hQ => by
    change (match stepM x call r.isSome N ops.toList s o with
      | some l1 => bindL (runM x call r.isSome N ops.toList l) l1
      | none => none) = some r1 at hr
    split at hr
    · rename_i l1 h1
      refine stepM_ok hx hcall hrel hs h1 (K := wpListIn (FF r) n x.P ops Q l) (Q := Q) fun s1 hs1 a1 w1 haft => ?_
      obtain ⟨e1, h3, h4, h5⟩ := haft.rel
      obtain ⟨s2, h6, h7⟩ := bindL_ok hr s1 hs1
      exact runM_ok hx hcall h3 h4 h6 fun s3 hs3 a2 w2 h8 => hQ s3 (h7 s3 hs3) a2 w2 (h5 _ _ _ h8)
    · cases hr
/-- what is asked of a region that draws one bit -/
def CoinOK (x : Cx) (r : Option Nat) (n N : Nat) : Prop := ∀ (id : Nat) (ops : Array Oper) (d b : Nat) (s : St) (l : List St) (e : Env) (a : Act) (w : World) (Q : Exit → Act → World → Prop), coinOf x ops.toList = some (d, b) →
  Rel x e s.S w → SR x e N s a → coinSts N s d b = some l → (∀ s1, s1 ∈ l → ∀ a1 w1, Aft x e s.S w N s1 a1 w1 → Q .normal a1 w1) → (Code.region id ops true).wpIn (FF r) n x.P Q a w
theorem withN_ok {l : Option (List St)} {r : List (XE × St)} (h : withN l = some r) : ∃ l1, l = some l1 ∧ ∀ s, s ∈ l1 → (XE.normal, s) ∈ r := by
  unfold withN at h
  split at h
  · rename_i l1
    cases h
    exact ⟨l1, rfl, fun s hs => List.mem_map.2 ⟨s, hs, rfl⟩⟩
  · cases h
/-- all outcomes of a stretch of code -/
def Outs (x : Cx) (e : Env) (S : AS) (w : World) (N : Nat) (Q : Exit → Act → World → Prop) (outs : List (XE × St)) : Prop :=
  ∀ p, p ∈ outs → ∀ a1 w1, Aft x e S w N p.2 a1 w1 → Q (exOf p.1) a1 w1
theorem ycode_ok (hx : CxOK x) {call : CallF} (hcall : CallOK x call) {r : Option Nat} {n : Nat} (hdraw : DrawOK x call r n N) (hrange : RangeOK x call r n N) (hcoin : CoinOK x r n N) : ∀ (k : Nat),
    (∀ (c : Code) (outs : List (XE × St)) (s : St) (e : Env) (a : Act) (w : World) (Q : Exit → Act → World → Prop), Rel x e s.S w → SR x e N s a → ycode x call r.isSome N k c s = some outs →
      Outs x e s.S w N Q outs → c.wpIn (FF r) n x.P Q a w) ∧
    (∀ (c : Code) (outs : List (XE × St)) (s : St) (e : Env) (a : Act) (w : World) (Q : Exit → Act → World → Prop), Rel x e s.S w → SR x e N s a → ycode x call r.isSome N k (.loop c) s = some outs →
      Outs x e s.S w N Q outs → Code.roundsIn (FF r) n x.P c Q k a w)
  | 0 => by constructor <;> (intro c outs s e a w Q _ _ h _; cases h)
  | k + 1 => by
    obtain ⟨ihc, ihl⟩ := ycode_ok hx hcall hdraw hrange hcoin k
    -- behind an outcome
    have behind : ∀ {q : St → Option (List (XE × St))} {l outs : List (XE × St)} {p : XE × St}, bindL (afterN q) l = some outs → p ∈ l → (p.1 = .normal → ∃ o2, q p.2 = some o2 ∧ ∀ z, z ∈ o2 → z ∈ outs) ∧ (p.1 ≠ .normal → p ∈ outs) := fun {q l outs p} hb hp => by
      obtain ⟨s2, h1, h2⟩ := bindL_ok hb p hp
      unfold afterN at h1
      refine ⟨fun hn => ?_, fun hn => ?_⟩
      · rw [hn] at h1; exact ⟨s2, h1, h2⟩
      · split at h1
        · rename_i hh; exact absurd hh hn
        · cases h1; exact h2 p (by simp)
    have rounds : ∀ (c : Code) (outs : List (XE × St)) (s : St) (e : Env) (a : Act) (w : World) (Q : Exit → Act → World → Prop), Rel x e s.S w → SR x e N s a → ycode x call r.isSome N (k + 1) (.loop c) s = some outs →
        Outs x e s.S w N Q outs → Code.roundsIn (FF r) n x.P c Q (k + 1) a w := by
      intro c outs s e a w Q hrel hs h hQ
      change bindO (afterN (ycode x call r.isSome N k (.loop c))) (ycode x call r.isSome N k c s) = some outs at h
      rw [roundsIn_succ]
      unfold bindO at h
      split at h
      · rename_i l hl
        refine ihc c l s e a w _ hrel hs hl fun p hp a1 w1 haft => ?_
        obtain ⟨e1, h3, h4, h5⟩ := haft.rel
        obtain ⟨b1, b2⟩ := behind h hp
        obtain ⟨ex, s1⟩ := p
        cases ex with
        | normal =>
          obtain ⟨o2, h6, h7⟩ := b1 rfl
          exact ihl c o2 s1 e1 a1 w1 Q h3 h4 h6 fun z hz a2 w2 h8 => hQ z (h7 z hz) a2 w2 (h5 _ _ _ h8)
        | exit id => exact hQ _ (b2 (by simp)) a1 w1 haft
        | ret => exact hQ _ (b2 (by simp)) a1 w1 haft
      · cases h
    refine ⟨?_, rounds⟩
    intro c outs s e a w Q hrel hs h hQ
    have stay : ∀ ex, outs = [(ex, s)] → Q (exOf ex) a w := fun ex hh => by
      subst hh
      exact hQ (ex, s) (by simp) a w ⟨e, .refl hrel, hs⟩
    cases c with
    | skip => cases h; exact wpIn_skip (stay .normal rfl)
    | label l => cases h; exact wpIn_label (stay .normal rfl)
    | exit id => cases h; exact wpIn_exit (stay (.exit id) rfl)
    | ret => cases h; exact wpIn_ret (stay .ret rfl)
    | seq p q =>
      change bindO (afterN (ycode x call r.isSome N k q)) (ycode x call r.isSome N k p s) = some outs at h
      refine wpIn_seq ?_
      unfold bindO at h
      split at h
      · rename_i l hl
        refine ihc p l s e a w _ hrel hs hl fun z hz a1 w1 haft => ?_
        obtain ⟨e1, h3, h4, h5⟩ := haft.rel
        obtain ⟨b1, b2⟩ := behind h hz
        obtain ⟨ex, s1⟩ := z
        cases ex with
        | normal =>
          obtain ⟨o2, h6, h7⟩ := b1 rfl
          exact ihc q o2 s1 e1 a1 w1 Q h3 h4 h6 fun z hz a2 w2 h8 => hQ z (h7 z hz) a2 w2 (h5 _ _ _ h8)
        | exit id => exact hQ _ (b2 (by simp)) a1 w1 haft
        | ret => exact hQ _ (b2 (by simp)) a1 w1 haft
      · cases h
    | cond c p q =>
      change (match ev x s.f c with
        | .bool t => match t with
          | true => ycode x call r.isSome N k p s
          | false => ycode x call r.isSome N k q s
        | _ => none) = some outs at h
      have hv := ev_ok hrel hs.fr c
      split at h
      · rename_i t ht
        rw [ht] at hv
        have hb := hv.bool_inv
        split at h
        · exact wpIn_cond_true hb (ihc p outs s e a w Q hrel hs h hQ)
        · exact wpIn_cond_false hb (ihc q outs s e a w Q hrel hs h hQ)
      · cases h
    | block id c =>
      change (match ycode x call r.isSome N k c s with
        | some l => some (l.map (leftBlock id))
        | none => none) = some outs at h
      refine wpIn_block ?_
      split at h
      · rename_i l hl
        cases h
        refine ihc c l s e a w _ hrel hs hl fun z hz a1 w1 haft => ?_
        have hz2 : leftBlock id z ∈ l.map (leftBlock id) := List.mem_map.2 ⟨z, hz, rfl⟩
        obtain ⟨ex, s1⟩ := z
        cases ex with
        | normal => exact hQ _ hz2 a1 w1 haft
        | exit i =>
          show (if i = id then Q .normal a1 w1 else Q (.exit i) a1 w1)
          cases hb : Nat.beq i id with
          | true =>
            rw [if_pos (beq_iff.1 hb)]
            have : leftBlock id (.exit i, s1) = (.normal, s1) := by simp only [leftBlock, hb]
            rw [this] at hz2
            exact hQ _ hz2 a1 w1 haft
          | false =>
            have hne : ¬ i = id := fun hh => by rw [beq_iff.2 hh] at hb; cases hb
            rw [if_neg hne]
            have : leftBlock id (.exit i, s1) = (.exit i, s1) := by simp only [leftBlock, hb]
            rw [this] at hz2
            exact hQ _ hz2 a1 w1 haft
        | ret => exact hQ _ hz2 a1 w1 haft
      · cases h
    | loop c => exact wpIn_loop_rounds (k + 1) (rounds c outs s e a w Q hrel hs h hQ)
    | region id ops draw =>
      cases draw with
      | false =>
        change withN (runM x call r.isSome N ops.toList ops.toList s) = some outs at h
        obtain ⟨l, h1, h2⟩ := withN_ok h
        exact wpIn_region_list (runM_ok hx hcall hrel hs h1 fun s1 hs1 a1 w1 haft => hQ _ (h2 s1 hs1) a1 w1 haft)
      | true =>
        change (match coinOf x ops.toList with
          | some (d, b) => withN (coinSts N s d b)
          | none => withN (oneL (drawOps x call r.isSome N ops.toList s))) = some outs at h
        split at h
        · rename_i d b hc
          obtain ⟨l, h1, h2⟩ := withN_ok h
          exact hcoin id ops d b s l e a w Q hc hrel hs h1 fun s1 hs1 a1 w1 haft => hQ _ (h2 s1 hs1) a1 w1 haft
        · obtain ⟨l, h1, h2⟩ := withN_ok h
          obtain ⟨s1, h3, rfl⟩ := oneL_ok h1
          exact hdraw id ops s s1 e a w Q hrel hs h3 fun a1 w1 haft => hQ _ (h2 s1 (by simp)) a1 w1 haft
    | rangeFunc g ps assign body =>
      obtain ⟨⟨ex, s1⟩, h1, rfl⟩ := oneL_ok h
      exact hrange g ps assign body ex s s1 e a w Q hrel hs h1 fun a1 w1 haft => hQ (ex, s1) (by simp) a1 w1 haft
    | _ => cases h

/-! what heaps have in common -/
theorem keepO_ok {o p : Option AObj} {q : AObj} (h : keepO o p = some q) : o = some q ∧ ∃ p', p = some p' ∧ RO (fun i j => some i = some j) q p' := by
  unfold keepO at h
  split at h
  · split at h
    · split at h
      · rename_i hr
        cases h
        exact ⟨rfl, _, rfl, rnO_ok hr⟩
      · cases h
    · cases h
  · cases h
theorem keepT_ok : ∀ (t t' : PT AObj) (i : Nat) (q : AObj), (keepT t t').get i = some q → t.get i = some q ∧ ∃ p, t'.get i = some p ∧ RO (fun i j => some i = some j) q p
  | .leaf, t', i, q, h => by cases h
  | .node l y r, .leaf, i, q, h => by cases h
  | .node l y r, .node l' y' r', i, q, h => by
    have hd : keepT (.node l y r) (.node l' y' r') = .node (keepT l l') (keepO y y') (keepT r r') := rfl
    rw [hd, PT.get_node] at h
    rw [PT.get_node, PT.get_node]
    by_cases h0 : i = 0
    · simp only [h0, if_true] at h ⊢; exact keepO_ok h
    · simp only [h0, if_false] at h ⊢
      by_cases h1 : i % 2 = 1
      · simp only [h1, if_true] at h ⊢; exact keepT_ok l l' _ q h
      · simp only [h1, if_false] at h ⊢; exact keepT_ok r r' _ q h
/-- less may be known -/
theorem Stp.less {e1 : Env} {S1 S2 : AS} {w1 : World} (h : Stp x e S w e1 S1 w1) (hn : S1.next ≤ S2.next) (hg : ∀ i q, S2.heap.get i = some q → ∃ p, S1.heap.get i = some p ∧ (p = q ∨ RO (fun i j => some i = some j) q p)) : Stp x e S w e1 S2 w1 := by
  have hr : Rn (fun i j => some i = some j) e1 e1 := ⟨fun i j y hij hj => by cases hij; exact hj, fun _ _ h => h⟩
  refine ⟨⟨fun i hi => h.rel.fresh i (by omega), fun i hi => ?_, Nat.le_trans h.rel.next hn, fun i o ho => ?_, fun i j o o' b sh sh' hi hj hbi hbj => ?_, h.rel.size, h.rel.bnd, h.rel.glob, h.rel.gval, h.rel.gsz⟩, h.le, h.os, h.tape, h.output, h.grow, h.keep, fun b hb hl => ?_, Nat.le_trans h.next hn, h.old⟩
  · cases hq : S2.heap.get i with
    | none => rfl
    | some q =>
      obtain ⟨p, h1, _⟩ := hg i q hq
      rw [h.rel.low i hi] at h1; cases h1
  · obtain ⟨p, h1, h2⟩ := hg i o ho
    obtain ⟨b, sh, o', h3, h4, h5, h6⟩ := h.rel.obj i p h1
    refine ⟨b, sh, o', h3, h4, ?_, h6⟩
    rcases h2 with rfl | h2
    · exact h5
    · exact h2.objR hr h5
  · obtain ⟨p, h1, _⟩ := hg i o hi
    obtain ⟨q, h2, _⟩ := hg j o' hj
    exact h.rel.inj i j p q b sh sh' h1 h2 hbi hbj
  · obtain ⟨i, o, sh, hi, hbi⟩ := hl
    obtain ⟨p, h1, _⟩ := hg i o hi
    exact h.live b hb ⟨i, p, sh, h1, hbi⟩
theorem merge2_ok {a b : Value × AS} {v : Value} {S : AS} (h : merge2 a b = some (v, S)) : v = a.1 ∧ v = b.1 ∧ a.2.next ≤ S.next ∧ b.2.next ≤ S.next ∧
    ∀ i q, S.heap.get i = some q → a.2.heap.get i = some q ∧ ∃ p, b.2.heap.get i = some p ∧ RO (fun i j => some i = some j) q p := by
  unfold merge2 at h
  split at h
  · rename_i hv
    cases h
    have hv := veq_ok _ _ _ hv
    refine ⟨rfl, hv, ?_, ?_, fun i q hq => keepT_ok _ _ i q hq⟩
    · show a.2.next ≤ (match Nat.ble a.2.next b.2.next with | true => b.2.next | false => a.2.next)
      split
      · rename_i hb; exact ble_iff.1 hb
      · exact Nat.le_refl _
    · show b.2.next ≤ (match Nat.ble a.2.next b.2.next with | true => b.2.next | false => a.2.next)
      split
      · exact Nat.le_refl _
      · rename_i hb
        rcases Nat.lt_or_ge b.2.next a.2.next with h | h
        · omega
        · rw [ble_iff.2 h] at hb; cases hb
  · cases h
theorem mergeL_ok {a : Value × AS} : ∀ {l : List (Value × AS)} {v : Value} {S : AS}, mergeL a l = some (v, S) → ∀ b, b ∈ a :: l → v = b.1 ∧ b.2.next ≤ S.next ∧ ∀ i q, S.heap.get i = some q → ∃ p, b.2.heap.get i = some p ∧ (p = q ∨ RO (fun i j => some i = some j) q p)
  | [], v, S, h, b, hb => by
    have h : some a = some (v, S) := h
    cases h
    simp at hb
    subst hb
    exact ⟨rfl, Nat.le_refl _, fun i q hq => ⟨q, hq, .inl rfl⟩⟩
  | b0 :: l, v, S, h, b, hb => by
    change (match mergeL a l with
      | some c => merge2 c b0
      | none => none) = some (v, S) at h
    split at h
    · rename_i c hc
      obtain ⟨v2, S2⟩ := c
      obtain ⟨h1, h2, h3, h4, h5⟩ := merge2_ok h
      have ih := mergeL_ok hc
      have hin : b ∈ a :: l ∨ b = b0 := by
        rcases List.mem_cons.1 hb with h | h
        · exact .inl (by simp [h])
        · rcases List.mem_cons.1 h with h | h
          · exact .inr h
          · exact .inl (by simp [h])
      rcases hin with hin | rfl
      · obtain ⟨k1, k2, k3⟩ := ih b hin
        exact ⟨h1.trans k1, Nat.le_trans k2 h3, fun i q hq => k3 i q (h5 i q hq).1⟩
      · exact ⟨h2, h4, fun i q hq => let ⟨p, h6, h7⟩ := (h5 i q hq).2; ⟨p, h6, .inr h7⟩⟩
    · cases h
theorem endsM_ok {fn : Func} {l : List (XE × St)} {v : Value} {S : AS} (h : endsM x fn l = some (v, S)) : ∀ p, p ∈ l → ∃ q, endM x fn p = some q ∧ v = q.1 ∧ q.2.next ≤ S.next ∧
    ∀ i o, S.heap.get i = some o → ∃ p, q.2.heap.get i = some p ∧ (p = o ∨ RO (fun i j => some i = some j) o p) := by
  unfold endsM at h
  split at h
  · rename_i a l2 hb
    intro p hp
    obtain ⟨s, h1, h2⟩ := bindL_ok hb p hp
    obtain ⟨q, h3, rfl⟩ := oneL_ok h1
    exact ⟨q, h3, mergeL_ok h q (h2 q (by simp))⟩
  · cases h
theorem callM_ok (hx : CxOK x) (hq : QuietOK x) {call : CallF} (hcall : CallOK x call) {k : Nat} (hdraw : ∀ n N, DrawOK x call none n N) (hcoin : ∀ n N, CoinOK x none n N) : MultiOK x call k := by
  intro g fn c args S v S1 hf hb h e w args' n hrel ha
  unfold callM at h
  split at h
  · rename_i outs hy
    have hends := endsM_ok h
    refine callsIn_of_wp_marks hf hb trivial ?_
    refine (ycode_ok hx hcall (r := none) (n := n) (hdraw n _) (rangeF_ok hcall hx) (hcoin n _) k).1 c outs { f := enterF 0 args .leaf, ds := [], S := S } e _ w _ hrel ⟨enter_ok ha fn.ntmps, trivial⟩ hy fun p hp a1 w1 haft => ?_
    obtain ⟨q, h1, h2, h3, h4⟩ := hends p hp
    obtain ⟨e1, g1, g2⟩ := haft
    obtain ⟨ex, s1⟩ := p
    unfold endM at h1
    have fin : ex ≠ .exit 0 → (∀ id, ex ≠ .exit id) → LeavesInM (FF none) n x.P fn a1.tmps (RetOK x e S w v S1) a1.defers .returning w1 := fun _ hne => by
      have h1' : (match leaveD s1.ds s1.S with
        | some S => match resultsV x s1.f S fn.results.toList with
          | some vs => some (one vs, S)
          | none => none
        | none => none) = some q := by
        cases ex with
        | exit id => exact absurd rfl (hne id)
        | normal => exact h1
        | ret => exact h1
      split at h1'
      · rename_i S2 hl
        split at h1'
        · rename_i vs hr
          cases h1'
          refine leave_ok hx hq g1.rel g2.ds hl fun w2 k3 => ?_
          obtain ⟨v', k4, k5⟩ := results_ok k3.rel g2.fr hr
          refine ⟨v', k4, e1, (g1.trans k3).less h3 h4, ?_⟩
          rw [h2]; exact k5
        · cases h1'
      · cases h1'
    cases ex with
    | normal => exact fin (by simp) (by simp)
    | ret => exact fin (by simp) (by simp)
    | exit id => simp at h1
  · cases h
end Go.X
