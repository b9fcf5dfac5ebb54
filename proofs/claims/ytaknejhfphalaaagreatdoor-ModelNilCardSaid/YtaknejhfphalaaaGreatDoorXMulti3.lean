import Derived.Test.YtaknejhfphalaaaGreatDoorXMulti1
/-
  Part thirty-two: a region that draws one bit; the executor's calls.
-/
namespace Go.X
open Go
variable {x : Cx} {e : Env} {S : AS} {w : World} {N : Nat} {f : Fr} {a : Act}

structure CoinS (x : Cx) (l : List Oper) (d b : Nat) (o0 o1 o2 o3 : Oper) (t : TypeId) (c1 c2 z : Bool) : Prop where
  ops : l = [o0, o1, o2, o3]
  p0 : o0.op = .alloc t
  p1 : o1.op = .store t (.tmp d) (.const (.bool c1))
  p2 : o2.op = .store t (.tmp d) (.const (.bool c2))
  p3 : o3.op = .load t (.tmp d)
  d0 : o0.dst = some d
  d1 : o1.dst = none
  d2 : o2.dst = none
  d3 : o3.dst = some b
  g0 : o0.guard = none
  g1 : o1.guard = none
  g2 : o2.guard = none
  g3 : o3.guard = none
  ne : d ≠ b
  size : sizeT x t = some 1
  zero : zeroT x t = some (.bool z)
  flat : isAggT x t = some false
theorem isTmp_ok {o : Operand} {t : Nat} (h : isTmp o t = true) : o = .tmp t := by
  unfold isTmp at h
  split at h
  · rw [beq_iff.1 h]
  · cases h
theorem isBoolK_ok {o : Operand} (h : isBoolK o = true) : ∃ c, o = .const (.bool c) := by
  unfold isBoolK at h
  split at h
  · exact ⟨_, rfl⟩
  · cases h
theorem coinShape_ok {l : List Oper} {d b : Nat} (h : coinShape x l = some (d, b)) : ∃ o0 o1 o2 o3 t c1 c2 z, CoinS x l d b o0 o1 o2 o3 t c1 c2 z := by
  unfold coinShape at h
  split at h
  case h_2 => cases h
  rename_i o0 o1 o2 o3
  split at h
  case h_2 => cases h
  rename_i t h0
  split at h
  case h_2 => cases h
  rename_i t1 a1 v1 h1
  split at h
  case h_2 => cases h
  rename_i t2 a2 v2 h2
  split at h
  case h_2 => cases h
  rename_i t3 a3 h3
  split at h
  case h_2 => cases h
  rename_i d' hd0
  split at h
  case h_2 => cases h
  rename_i b' hd3
  split at h
  case h_2 => cases h
  rename_i hd1
  split at h
  case h_2 => cases h
  rename_i hd2
  split at h
  case h_2 => cases h
  rename_i hall
  split at h
  case h_2 => cases h
  rename_i hsz
  split at h
  case h_2 => cases h
  rename_i z hz
  split at h
  case h_2 => cases h
  rename_i hag
  cases h
  simp only [Bool.and_eq_true] at hall
  obtain ⟨k1, k2, k3, k4, k5, k6, k7, k8, k9, k10, k11, k12, k13⟩ := hall
  obtain ⟨c1, rfl⟩ := isBoolK_ok k4
  obtain ⟨c2, rfl⟩ := isBoolK_ok k5
  have e1 := isTmp_ok k1
  have e2 := isTmp_ok k2
  have e3 := isTmp_ok k3
  have f1 := beq_iff.1 k6
  have f2 := beq_iff.1 k7
  have f3 := beq_iff.1 k8
  subst e1; subst e2; subst e3; subst f1; subst f2; subst f3
  refine ⟨o0, o1, o2, o3, _, c1, c2, z, ⟨rfl, h0, h1, h2, h3, hd0, hd1, hd2, hd3, by simpa using k9, by simpa using k10, by simpa using k11, by simpa using k12, ?_, hsz, hz, hag⟩⟩
  intro hh
  rw [beq_iff.2 hh] at k13
  cases k13

/-- the heap with the new bool -/
noncomputable def coinH (S : AS) (t : TypeId) (c : Bool) : AS := addObj S (.cells [.bool c] t true)
noncomputable def coinP (S : AS) : Value := .pointer (some (here S))
theorem coinH_get {S : AS} {t : TypeId} {c : Bool} : (coinH S t c).heap.get S.next = some (.cells [.bool c] t true) := by
  unfold coinH addObj
  exact PT.get_set_same _ _ _
/-- what holds while the operations come -/
structure CInv (x : Cx) (N : Nat) (ms : List Nat) (s : St) (d b : Nat) (t : TypeId) (e : Env) (w : World) (n : Nat) (listed : Array Bool) (a1 : Act) (w1 : World) : Prop where
  len : listed.size = n
  off : ¬ On listed 0 → ∃ e1, Stp x e s.S w e1 s.S w1 ∧ SR x e1 N s a1
  mid : On listed 0 → ¬ On listed 3 → ∃ e1 c, Stp x e s.S w e1 (coinH s.S t c) w1 ∧ SR x e1 N ⟨s.f.set d (some (coinP s.S)), s.ds, coinH s.S t c⟩ a1
  fin : On listed 3 → ∃ e1 c c2, Stp x e s.S w e1 (coinH s.S t c) w1 ∧ SR x e1 N ⟨(s.f.set d (some (coinP s.S))).set b (some (.bool c2)), s.ds, coinH s.S t c⟩ a1
  down : ∀ i, i < n → On listed i → ∀ j, Nat.testBit (natAt ms i) j = true → On listed j
theorem ev_bool {x : Cx} {f : Fr} {c : Bool} : ev x f (.const (.bool c)) = .bool c := rfl
theorem ev_at {x : Cx} {f : Fr} {t : Nat} {v : Value} (h : f.get t = some v) : ev x f (.tmp t) = v := by simp only [ev, h]
theorem store_bool {S : AS} {t : TypeId} {c c1 : Bool} (hG : x.G ≤ S.next) (hsz : sizeT x t = some 1) :
    ∃ S1, storeV x (coinH S t c) t (coinP S) (.bool c1) = some (undef, S1) ∧ S1.next = (coinH S t c1).next ∧ ∀ k, S1.heap.get k = (coinH S t c1).heap.get k := by
  have hput : PutAt x (coinH S t c) S.next 0 [.bool c1] [.bool c] t true := by
    refine ⟨?_, coinH_get, rfl, by simp⟩
    cases hb : Nat.blt S.next x.G with
    | false => rfl
    | true => have := blt_iff.1 hb; omega
  have hm := putCells_mk hput
  have hsp : splice [Value.bool c] 0 [.bool c1] = [.bool c1] := rfl
  rw [hsp] at hm
  refine ⟨{ coinH S t c with heap := (coinH S t c).heap.set S.next (some (.cells [.bool c1] t true)) }, ?_, rfl, fun k => ?_⟩
  · unfold storeV coinP here
    simp only [hsz]
    have hl : Nat.beq (cellsL (.bool c1)).length 1 = true := rfl
    rw [hl]
    simp only
    have hc : cellsL (.bool c1) = [.bool c1] := rfl
    rw [hc, hm]
  · show PT.get (PT.set (coinH S t c).heap S.next _) k = _
    by_cases hk : k = S.next
    · subst hk
      rw [PT.get_set_same, coinH_get]
    · rw [PT.get_set_other _ _ _ _ hk]
      unfold coinH addObj
      rw [PT.get_set_other _ _ _ _ hk, PT.get_set_other _ _ _ _ hk]
theorem coin_steps (hx : CxOK x) {call : CallF} (hcall : CallOK x call) {r : Option Nat} {n : Nat} {ops : Array Oper} {s : St} {d b : Nat} {o0 o1 o2 o3 : Oper} {t : TypeId} {c1 c2 z : Bool} (hrel : Rel x e s.S w)
    (hc : CoinS x ops.toList d b o0 o1 o2 o3 t c1 c2 z) (hord : coinOrd (masksFrom ops.toList []) ops.toList = true) (hd : d < N) (hb : b < N) {md : Region.Mode} {Q : Exit → Act → World → Prop}
    (hQ : ∀ listed a1 w1, CInv x N (masksFrom ops.toList []) s d b t e w ops.size listed a1 w1 → (∀ i, i < ops.size → On listed i) → Q .normal a1 w1) :
    ∀ (fuel : Nat) (listed : Array Bool) (a1 : Act) (w1 : World), CInv x N (masksFrom ops.toList []) s d b t e w ops.size listed a1 w1 → listed.toList.count false ≤ fuel → wpAnyIn (FF r) n x.P md ops Q fuel listed a1 w1 := by
  have hsize : ops.size = 4 := by have := congrArg List.length hc.ops; simpa using this
  have hG := hrel.next
  unfold coinOrd at hord
  split at hord
  case h_2 => cases hord
  rename_i hmk
  split at hord
  case h_2 => cases hord
  rename_i hpr
  simp only [Bool.and_eq_true] at hord
  obtain ⟨m10, m20, m30, m31, m32⟩ := hord
  have hmk := masksOk_all hmk
  generalize masksFrom ops.toList [] = ms at *
  have lk : ∀ {i : Nat} {o : Oper}, ops[i]? = some o → ops.toList[i]? = some o := fun h => by rw [Array.getElem?_toList]; exact h
  have hback : ∀ (i : Nat) (o : Oper), ops[i]? = some o → ∀ ed : Edge, ed ∈ o.after.toList → Region.binds .text ed = true → ed.on < i := fun i o ho ed hed hb => by
    have := (hmk i o (lk ho)).2
    rw [Nat.zero_add] at this
    exact backE_all this ed hed hb
  have hrank : ∃ R : Nat → Nat, ∀ (i : Nat) (o : Oper), ops[i]? = some o → ∀ ed : Edge, ed ∈ o.after.toList → Region.binds .gc ed = true → R ed.on < R i ∧ ed.on < ops.size := by
    obtain ⟨R, hR⟩ := progOk_rank hpr
    exact ⟨R, fun i o ho ed hed hb => by simpa using hR i o (lk ho) ed hed hb⟩
  have hmask : ∀ (i : Nat) (o : Oper), ops[i]? = some o → ∀ t, Nat.testBit (natAt ms i) t = true → ∃ ed : Edge, ed ∈ o.after.toList ∧ Region.binds .any ed = true ∧ (ed.on = t ∨ Nat.testBit (natAt ms ed.on) t = true) := fun i o ho t ht => by
    have := (hmk i o (lk ho)).1
    rw [Nat.zero_add] at this
    rw [this] at ht
    exact maskE_bit ht
  have at0 : ops[0]? = some o0 := by rw [← Array.getElem?_toList, hc.ops]; rfl
  have at1 : ops[1]? = some o1 := by rw [← Array.getElem?_toList, hc.ops]; rfl
  have at2 : ops[2]? = some o2 := by rw [← Array.getElem?_toList, hc.ops]; rfl
  have at3 : ops[3]? = some o3 := by rw [← Array.getElem?_toList, hc.ops]; rfl
  intro fuel
  induction fuel with
  | zero =>
    intro listed a1 w1 hv hcnt
    have hon : ∀ i, i < ops.size → On listed i := fun i hi => by
      have h0 : false ∉ listed.toList := List.count_eq_zero.1 (by omega)
      have hlt : i < listed.size := by rw [hv.len]; exact hi
      unfold On
      simp only [Array.getD, hlt, dif_pos]
      show listed[i] = true
      cases hb : listed[i] with
      | true => rfl
      | false => exact absurd (by rw [← hb]; simp) h0
    refine ⟨?_, hQ listed a1 w1 hv hon⟩
    cases hr : Region.ready md ops listed with
    | nil => rfl
    | cons j js =>
      have hm : j ∈ Region.ready md ops listed := by rw [hr]; simp
      obtain ⟨h1, o, ho, _⟩ := mem_ready.1 hm
      have hlt := opLt ho
      have := hon j hlt
      unfold On at this
      have hlt2 : j < listed.size := by rw [hv.len]; exact hlt
      simp [Array.getD, hlt2] at h1 this
      rw [h1] at this; cases this
  | succ fuel ih =>
    intro listed a1 w1 hv hcnt
    refine ⟨fun hr => hQ listed a1 w1 hv (all_on' hv.len hback hrank hr), fun i hi => ?_⟩
    obtain ⟨hf1, o, ho, hed⟩ := mem_ready.1 hi
    have hlt := opLt ho
    have hil : i < listed.size := by rw [hv.len]; exact hlt
    have hni : ¬ On listed i := fun hon => by
      unfold On at hon
      simp [Array.getD, hil] at hf1 hon
      rw [hf1] at hon; cases hon
    have hdep : ∀ ed : Edge, ed ∈ o.after.toList → Region.binds .any ed = true → On listed ed.on := fun ed h1 h2 => hed ed (by simpa using h1) (binds_any h2)
    have hcnt2 : (listed.setIfInBounds i true).toList.count false ≤ fuel := by
      have : listed.toList[i]? = some false := by
        unfold On at hni
        simp only [Array.getD, hil, dif_pos] at hni
        have hni : listed[i] ≠ true := hni
        rw [Array.getElem?_toList, Array.getElem?_eq_getElem hil]
        cases hb : listed[i] with
        | true => exact absurd hb hni
        | false => rfl
      have := count_set this
      rw [Array.toList_setIfInBounds]
      omega
    have hd' : ∀ j, Nat.testBit (natAt ms i) j = true → On listed j := fun j hb => by
      obtain ⟨ed, h1, h2, h3⟩ := hmask i o ho j hb
      have hon := hdep ed h1 h2
      rcases h3 with h3 | h3
      · rw [h3] at hon; exact hon
      · exact hv.down ed.on (by have := hback i o ho ed h1 (binds_any h2); omega) hon j h3
    have hdn := down_next (M := natAt ms) (ops := ops) hv.down hil hd'
    have put4 : ∀ j, On (listed.setIfInBounds i true) j ↔ j = i ∨ On listed j := fun j => on_set hil
    unfold wpOpIn
    simp only [ho]
    have go : ∀ {H : AS} {f1 : Fr} {e1 : Env} {s1 : St}, Rel x e1 H w1 → SR x e1 N ⟨f1, s.ds, H⟩ a1 → stepOp x call r.isSome N ops.toList ⟨f1, s.ds, H⟩ o = some s1 →
        (∀ a2 w2, Aft x e1 H w1 N s1 a2 w2 → CInv x N ms s d b t e w ops.size (listed.setIfInBounds i true) a2 w2) →
        (if Region.wanted o (yielded ops a1.tmps) = true then o.wpIn (FF r) n x.P a1 w1 (wpAnyIn (FF r) n x.P md ops Q fuel (listed.setIfInBounds i true)) Q
          else (∀ f, o.about x.P w1 a1.eval = some f → (FF r).fn f) ∧ wpAnyIn (FF r) n x.P md ops Q fuel (listed.setIfInBounds i true) (a1.put o.dst undef) w1) := fun {H f1 e1 s1} h1 h2 h3 h4 =>
      stepOp_ok hx hcall h1 h2 h3 (K := wpAnyIn (FF r) n x.P md ops Q fuel (listed.setIfInBounds i true)) (Q := Q) fun a2 w2 haft => ih _ a2 w2 (h4 a2 w2 haft) hcnt2
    have hlen' : (listed.setIfInBounds i true).size = ops.size := by simp [hv.len]
    have ptr : (s.f.set d (some (coinP s.S))).get d = some (coinP s.S) := PT.get_set_same _ _ _
    rcases (show i = 0 ∨ i = 1 ∨ i = 2 ∨ i = 3 by omega) with rfl | rfl | rfl | rfl
    · -- the new bool
      rw [at0] at ho; cases ho
      obtain ⟨e1, h1, h2⟩ := hv.off hni
      have n3 : ¬ On listed 3 := fun h => hni (hv.down 3 (by omega) h 0 m30)
      refine go (s1 := ⟨s.f.set d (some (coinP s.S)), s.ds, coinH s.S t z⟩) h1.rel h2 ?_ fun a2 w2 haft => ?_
      · unfold stepOp wantedV
        simp only [hc.g0]
        unfold doOp
        simp only [hc.p0, sem, allocV, hc.zero, St.putW, hc.d0]
        unfold St.put putV
        simp only [blt_iff.2 hd]
        rfl
      · obtain ⟨e2, h3, h4⟩ := haft
        refine ⟨hlen', fun h => absurd ((put4 0).2 (.inl rfl)) h, fun _ _ => ⟨e2, z, h1.trans h3, h4⟩, fun h => ?_, hdn⟩
        rcases (put4 3).1 h with h | h
        · omega
        · exact absurd h n3
    · -- a store
      rw [at1] at ho; cases ho
      have h0 := hd' 0 m10
      have n3 : ¬ On listed 3 := fun h => hni (hv.down 3 (by omega) h 1 m31)
      obtain ⟨e1, c, h1, h2⟩ := hv.mid h0 n3
      obtain ⟨S1, hs1, hs2, hs3⟩ := store_bool (x := x) (S := s.S) (t := t) (c := c) (c1 := c1) hG hc.size
      refine go (s1 := ⟨s.f.set d (some (coinP s.S)), s.ds, S1⟩) h1.rel h2 ?_ fun a2 w2 haft => ?_
      · unfold stepOp wantedV
        simp only [hc.g1]
        unfold doOp
        simp only [hc.p1, sem, ev_at ptr, ev_bool, hs1, St.putW, hc.d1]
        rfl
      · obtain ⟨e2, h3, h4⟩ := haft
        refine ⟨hlen', fun h => absurd ((put4 0).2 (.inr h0)) h, fun _ _ => ⟨e2, c1, (h1.trans h3).same hs2 hs3, ⟨h4.fr, h4.ds⟩⟩, fun h => ?_, hdn⟩
        rcases (put4 3).1 h with h | h
        · omega
        · exact absurd h n3
    · rw [at2] at ho; cases ho
      have h0 := hd' 0 m20
      have n3 : ¬ On listed 3 := fun h => hni (hv.down 3 (by omega) h 2 m32)
      obtain ⟨e1, c, h1, h2⟩ := hv.mid h0 n3
      obtain ⟨S1, hs1, hs2, hs3⟩ := store_bool (x := x) (S := s.S) (t := t) (c := c) (c1 := c2) hG hc.size
      refine go (s1 := ⟨s.f.set d (some (coinP s.S)), s.ds, S1⟩) h1.rel h2 ?_ fun a2 w2 haft => ?_
      · unfold stepOp wantedV
        simp only [hc.g2]
        unfold doOp
        simp only [hc.p2, sem, ev_at ptr, ev_bool, hs1, St.putW, hc.d2]
        rfl
      · obtain ⟨e2, h3, h4⟩ := haft
        refine ⟨hlen', fun h => absurd ((put4 0).2 (.inr h0)) h, fun _ _ => ⟨e2, c2, (h1.trans h3).same hs2 hs3, ⟨h4.fr, h4.ds⟩⟩, fun h => ?_, hdn⟩
        rcases (put4 3).1 h with h | h
        · omega
        · exact absurd h n3
    · rw [at3] at ho; cases ho
      have h0 := hd' 0 m30
      have n3 := hni
      obtain ⟨e1, c, h1, h2⟩ := hv.mid h0 n3
      refine go (s1 := ⟨(s.f.set d (some (coinP s.S))).set b (some (.bool c)), s.ds, coinH s.S t c⟩) h1.rel h2 ?_ fun a2 w2 haft => ?_
      · unfold stepOp wantedV
        simp only [hc.g3]
        unfold doOp
        simp only [hc.p3, sem, ev_at ptr, hc.d3]
        have hrow : row x (coinH s.S t c) s.S.next = some [.bool c] := by
          unfold row
          have : Nat.blt s.S.next x.G = false := by
            cases hb : Nat.blt s.S.next x.G with
            | false => rfl
            | true => have := blt_iff.1 hb; omega
          rw [this, coinH_get]
        have hload : loadV x (coinH s.S t c) t (coinP s.S) = some (.bool c) := by
          unfold loadV coinP here loadAt
          simp only [hrow, hc.flat]
          rfl
        rw [hload]
        unfold St.putO St.put putV
        simp only [blt_iff.2 hb]
      · obtain ⟨e2, h3, h4⟩ := haft
        refine ⟨hlen', fun h => absurd ((put4 0).2 (.inr h0)) h, fun _ h => absurd ((put4 3).2 (.inl rfl)) h, fun _ => ⟨e2, c, c, h1.trans h3, h4⟩, hdn⟩
theorem coin_ok (hx : CxOK x) {call : CallF} (hcall : CallOK x call) (r : Option Nat) (n N : Nat) : CoinOK x r n N := by
  intro id ops d b s l e a w Q hco hrel hs hl hQ
  unfold coinOf at hco
  split at hco
  case h_2 => cases hco
  rename_i p hsh
  split at hco
  case h_2 => cases hco
  rename_i hord
  cases hco
  obtain ⟨o0, o1, o2, o3, t, c1, c2, z, hc⟩ := coinShape_ok hsh
  have hsize : ops.size = 4 := by have := congrArg List.length hc.ops; simpa using this
  unfold coinSts at hl
  split at hl
  case h_2 => cases hl
  rename_i s1 hs1
  split at hl
  case h_2 => cases hl
  rename_i s2 hs2
  cases hl
  have form : ∀ {v : Bool} {s3 : St}, coinSt N s d b v = some s3 → d < N ∧ b < N ∧ s3 = ⟨(s.f.set d (some unk)).set b (some (.bool v)), s.ds, { heap := s.S.heap, next := Nat.succ s.S.next }⟩ := fun {v s3} h => by
    unfold coinSt at h
    split at h
    case h_2 => cases h
    rename_i f1 h1
    split at h
    case h_2 => cases h
    rename_i f2 h2
    cases h
    unfold putV at h1 h2
    simp only at h1 h2
    split at h1
    case h_2 => cases h1
    rename_i hd
    split at h2
    case h_2 => cases h2
    rename_i hb
    cases h1; cases h2
    exact ⟨blt_iff.1 hd, blt_iff.1 hb, rfl⟩
  obtain ⟨hd, hb, e1⟩ := form hs1
  obtain ⟨_, _, e2⟩ := form hs2
  have off : ∀ j, ¬ On (Array.replicate ops.size false) j := fun j hon => by
    unfold On at hon
    by_cases hj : j < ops.size
    · simp [Array.getD, hj] at hon
    · simp [Array.getD, hj] at hon
  have inv0 : CInv x N (masksFrom ops.toList []) s d b t e w ops.size (Array.replicate ops.size false) a { w with drawn := w.drawn + 1 } :=
    ⟨by simp, fun _ => ⟨e, .drew hrel, hs⟩, fun h => absurd h (off 0), fun h => absurd h (off 3), fun i _ h => absurd h (off i)⟩
  have fin : ∀ listed a1 w1, CInv x N (masksFrom ops.toList []) s d b t e w ops.size listed a1 w1 → (∀ i, i < ops.size → On listed i) → Q .normal a1 w1 := by
    intro listed a1 w1 hv hon
    obtain ⟨e1', c, c3, h1, h2⟩ := hv.fin (hon 3 (by omega))
    have haft : Aft x e s.S w N ⟨(s.f.set d (some unk)).set b (some (.bool c3)), s.ds, { heap := s.S.heap, next := Nat.succ s.S.next }⟩ a1 w1 := by
      refine ⟨e1', h1.less (Nat.le_refl _) fun i q hq => ?_, ⟨⟨h2.fr.size, fun i => ?_⟩, h2.ds⟩⟩
      · have hne : i ≠ s.S.next := fun hh => by
          subst hh
          have hq : s.S.heap.get s.S.next = some q := hq
          obtain ⟨b', sh', _, hb', _⟩ := hrel.obj _ q hq
          rw [hrel.fresh _ (Nat.le_refl _)] at hb'; cases hb'
        refine ⟨q, ?_, .inl rfl⟩
        unfold coinH addObj
        rw [PT.get_set_other _ _ _ _ hne]; exact hq
      · have := h2.fr.val i
        show VR e1' (tmp0 ((s.f.set d (some unk)).set b (some (.bool c3))) i) _
        have this : VR e1' (tmp0 ((s.f.set d (some (coinP s.S))).set b (some (.bool c3))) i) (a1.tmps.getD i undef) := this
        by_cases hib : i = b
        · subst hib
          unfold tmp0 at this ⊢
          rw [PT.get_set_same] at this ⊢
          exact this
        · unfold tmp0 at this ⊢
          rw [PT.get_set_other _ _ _ _ hib] at this ⊢
          by_cases hid : i = d
          · subst hid
            rw [PT.get_set_same]
            exact .any _
          · rw [PT.get_set_other _ _ _ _ hid] at this ⊢
            exact this
    cases c3 with
    | true => exact hQ s1 (by simp) a1 w1 (by rw [e1]; exact haft)
    | false => exact hQ s2 (by simp) a1 w1 (by rw [e2]; exact haft)
  have hcount : (Array.replicate ops.size false).toList.count false ≤ ops.size := by simp
  refine wpIn_region_draw fun t => ?_
  unfold Region.schedule
  split
  · exact wpAnyIn_sound _ _ _ _ _ (coin_steps hx hcall hrel hc hord hd hb fin ops.size _ a _ inv0 hcount)
  · split
    · exact wpAnyIn_sound _ _ _ _ _ (coin_steps hx hcall hrel hc hord hd hb fin ops.size _ a _ inv0 hcount)
    · exact wpAnyIn_sound _ _ _ _ _ (coin_steps hx hcall hrel hc hord hd hb fin ops.size _ a _ inv0 hcount)
/-- THE EXECUTOR's CALLS ARE THE MODEL's: regions whose order is drawn, and functions run outcome by outcome, included. -/
theorem xcall_sound (hx : CxOK x) (hq : QuietOK x) {hook : CallF} (hh : HookOK x hook) (k : Nat) : CallOK x (xcall x hook k) :=
  xcall_ok hx hq hh (fun _ r n N hcall => draw_ok hx hcall r n N) (fun _ _ hcall => callM_ok hx hq hcall (fun n N => draw_ok hx hcall none n N) (fun n N => coin_ok hx hcall none n N)) k
end Go.X
