import Derived.Test.YtaknejhfphalaaaGreatDoorXCode
import Derived.RangeFuncRecord
/-
  Part eighteen: calls of functions.
-/
namespace Go.X
open Go
variable {x : Cx} {e : Env} {S : AS} {w : World} {N : Nat} {f : Fr} {a : Act}

/-- the functions that do nothing when they are deferred -/
def Grown (w w' : World) : Prop := w'.os = w.os ∧ w'.tape = w.tape ∧ w'.output = w.output ∧ w.heap.size ≤ w'.heap.size ∧ ∀ b, b < w.heap.size → w'.heap[b]? = w.heap[b]?
def QuietOK (x : Cx) : Prop := ∀ g, x.quiet g = true → ∀ (args : Array Value) (e : Env) (S : AS) (w : World) (n : Nat), Rel x e S w → args.size ≤ 4 → (∃ fn, x.P.funcs[g]? = some fn ∧ fn.body.isSome = true) ∧
  CallsDIn (FF none) n x.P g args .returning w (fun en u w' => (∃ v, en = .returned v) ∧ u = .returning ∧ Grown w w')

theorem Stp.grown (h : Rel x e S w) {w' : World} (g : Grown w w') : Stp x e S w e S w' := by
  obtain ⟨g1, g2, g3, g4, g5⟩ := g
  have hlt : ∀ {b : Nat} {o : Obj}, w.heap[b]? = some o → b < w.heap.size := fun hb => (Array.getElem?_eq_some_iff.1 hb).1
  refine ⟨⟨h.fresh, h.low, h.next, fun i o hi => ?_, h.inj, fun b n hb => ?_, fun i b sh hb => ?_, h.glob, fun g l hg hl => ?_, by have := h.gsz; omega⟩, .refl e, g1, g2, g3, g4, fun b hb _ => g5 b hb, fun _ _ h => h, Nat.le_refl _, fun _ _ h => h⟩
  · obtain ⟨b, sh, o', h1, h2, h3, h4⟩ := h.obj i o hi
    exact ⟨b, sh, o', h1, by rw [g5 b (hlt h2)]; exact h2, h3, h4⟩
  · obtain ⟨c, el, fz, h1, h2⟩ := h.size b n hb
    exact ⟨c, el, fz, by rw [g5 b (hlt h1)]; exact h1, h2⟩
  · have := h.bnd i b sh hb; omega
  · obtain ⟨c, el, fz, h1, h2⟩ := h.gval g l hg hl
    exact ⟨c, el, fz, by rw [g5 g (hlt h1)]; exact h1, h2⟩
theorem getD_tmp {t : Array Value} {i : Nat} : t.getD i undef = (t[i]?).getD undef := Array.getD_eq_getD_getElem? ..
theorem enterF_ok : ∀ {args args' : List Value} {i : Nat} {f : Fr} {t : Array Value}, All2 (VR e) args args' → (∀ j, j < i → VR e (tmp0 f j) (t.getD j undef)) →
    (∀ (j : Nat) (v : Value), args'[j]? = some v → t[i + j]? = some v) → (∀ j, i + args'.length ≤ j → VR e (tmp0 f j) (t.getD j undef)) → ∀ j, VR e (tmp0 (enterF i args f) j) (t.getD j undef)
  | [], [], i, f, t, _, h1, _, h3, j => by
    rcases Nat.lt_or_ge j i with h | h
    · exact h1 j h
    · exact h3 j (by simpa using h)
  | [], _ :: _, _, _, _, h, _, _, _, _ => h.elim
  | _ :: _, [], _, _, _, h, _, _, _, _ => h.elim
  | v :: l, v' :: l', i, f, t, h, h1, h2, h3, j => by
    refine enterF_ok (i := i + 1) (f := f.set i (some v)) h.2 (fun q hq => ?_) (fun q u hu => ?_) (fun q hq => ?_) j
    · by_cases hqi : q = i
      · subst hqi
        have : tmp0 (f.set q (some v)) q = v := by simp [tmp0, PT.get_set_same]
        rw [this, getD_tmp, show t[q]? = some v' from by have := h2 0 v' rfl; simpa using this]
        exact h.1
      · have : tmp0 (f.set i (some v)) q = tmp0 f q := by simp [tmp0, PT.get_set_other _ _ _ _ hqi]
        rw [this]; exact h1 q (by omega)
    · have := h2 (q + 1) u (by simpa using hu)
      rw [show i + (q + 1) = i + 1 + q by omega] at this
      exact this
    · have : tmp0 (f.set i (some v)) q = tmp0 f q := by simp [tmp0, PT.get_set_other _ _ _ _ (show q ≠ i by omega)]
      rw [this]; exact h3 q (by simp; omega)
theorem enter_ok {args args' : List Value} (h : All2 (VR e) args args') (n : Nat) :
    FR e (Nat.max args.length n) (enterF 0 args .leaf) (args'.toArray ++ Array.replicate (n - args'.toArray.size) undef) := by
  have hl := h.length
  refine ⟨?_, enterF_ok h (fun j hj => absurd hj (Nat.not_lt_zero j)) (fun j v hv => ?_) (fun j hj => ?_)⟩
  · simp only [Array.size_append, Array.size_replicate, List.size_toArray, ← hl]
    show args.length + (n - args.length) = max args.length n
    omega
  · rw [Nat.zero_add, Array.getElem?_append_left (by have := (List.getElem?_eq_some_iff.1 hv).1; simpa using this)]
    simpa using hv
  · have h1 : tmp0 (.leaf : Fr) j = undef := rfl
    have h2 : (args'.toArray ++ Array.replicate (n - args'.toArray.size) undef).getD j undef = undef := by
      rw [getD_tmp, Array.getElem?_append_right (by simp; omega), Array.getElem?_replicate]
      split <;> rfl
    rw [h1, h2]; exact .undef
def resF (tmps : Array Value) : ResultVar → Sem Value
  | .tmp t => pure (tmps.getD t undef)
  | .cell p t => do loadVar t (← asAddr (tmps.getD p undef))
theorem results_eq (fn : Func) (tmps : Array Value) : results fn tmps = (do let vs ← fn.results.mapM (resF tmps); pure (if h : vs.size = 1 then vs[0] else .tuple vs)) := by
  unfold results
  congr 2
theorem resultsV_ok (h : Rel x e S w) (hf : FR e N f a.tmps) : ∀ {l : List ResultVar} {vs : List Value}, resultsV x f S l = some vs →
    ∃ vs', (l.mapM (resF a.tmps)).run x.P w = .ok vs' w ∧ All2 (VR e) vs vs'
  | [], vs, h => by cases h; exact ⟨[], rfl, trivial⟩
  | .tmp t :: l, vs, hr => by
    simp only [resultsV] at hr
    split at hr
    · rename_i r hr'
      cases hr
      obtain ⟨vs', h1, h2⟩ := resultsV_ok h hf hr'
      refine ⟨a.tmps.getD t undef :: vs', ?_, ev_ok h hf (.tmp t), h2⟩
      rw [List.mapM_cons]
      simp only [resF, Sem.run_bind, Sem.run_pure, Result.andThen_ok]
      rw [h1]; rfl
    · cases hr
  | .cell p t :: l, vs, hr => by
    simp only [resultsV] at hr
    split at hr
    · rename_i v r hv hr'
      cases hr
      obtain ⟨vs', h1, h2⟩ := resultsV_ok h hf hr'
      have hp : VR e (ev x f (.tmp p)) (a.tmps.getD p undef) := ev_ok h hf (.tmp p)
      obtain ⟨v', h3, h4⟩ := loadV_ok h hp v hv
      refine ⟨v' :: vs', ?_, h4, h2⟩
      have haddr : ∃ q, a.tmps.getD p undef = .pointer (some q) := by
        unfold loadV at hv
        split at hv
        · rename_i q hq
          rw [hq] at hp
          obtain ⟨b, sh, _, _, h5⟩ := hp.ptr_inv
          exact ⟨_, h5⟩
        · cases hv
      obtain ⟨q, hq⟩ := haddr
      rw [hq] at h3
      rw [List.mapM_cons]
      simp only [Instr.loadAt, Instr.sureAddr, Sem.run_bind, Sem.run_pure, Result.andThen_ok] at h3
      have hask : (asAddr (.pointer (some q))).run x.P w = .ok q w := rfl
      simp only [Sem.run_bind, resF, hq, hask, Result.andThen_ok, h3]
      rw [h1]; rfl
    · cases hr
theorem results_ok (h : Rel x e S w) (hf : FR e N f a.tmps) {fn : Func} {vs : List Value} (hr : resultsV x f S fn.results.toList = some vs) :
    ∃ v', (results fn a.tmps).run x.P w = .ok v' w ∧ VR e (one vs) v' := by
  obtain ⟨vs', h1, h2⟩ := resultsV_ok h hf hr
  have hrun : (results fn a.tmps).run x.P w = .ok (if hh : vs'.toArray.size = 1 then vs'.toArray[0] else .tuple vs'.toArray) w := by
    rw [results_eq, Sem.run_bind, Array.mapM_eq_mapM_toList, Sem.run_map, h1]
    rfl
  refine ⟨_, hrun, ?_⟩
  match vs, vs', h2 with
  | [], [], _ => exact VR.mkTuple (e := e) (c := []) (c' := []) trivial
  | [v], [v'], h2 => exact h2.1
  | v :: u :: l, v' :: u' :: l', h2 =>
    rw [dif_neg (by simp)]
    exact VR.mkTuple h2
/-- what is asked of a deferred function's run -/
def DcallOK (x : Cx) (dc : Nat → List Value → AS → Option AS) : Prop := ∀ g l S S1, dc g l S = some S1 → ∀ (args : Array Value) (e : Env) (w : World) (n : Nat), Rel x e S w → All2 (VR e) l args.toList → (∃ fn, x.P.funcs[g]? = some fn ∧ fn.body.isSome = true) ∧
  CallsDIn (FF none) n x.P g args .returning w (fun en u w' => u = .returning ∧ (∃ v, en = .returned v) ∧ ∃ e1, Stp x e S w e1 S1 w')
/-- an activation's way out -/
theorem leave_ok (hx : CxOK x) (hq : QuietOK x) {n : Nat} {fn : Func} {tmps : Array Value} {R : Ending → World → Prop} {dc : Nat → List Value → AS → Option AS} (hdc : DcallOK x dc) : ∀ {ds : List DE} {ds' : List Deferred} {S S1 : AS} {e : Env} {w : World}, Rel x e S w → All2 (DER x e) ds ds' → leaveD dc ds S = some S1 →
    (∀ w1 e1, Stp x e S w e1 S1 w1 → ∃ v, (results fn tmps).run x.P w1 = .ok v w1 ∧ R (.returned v) w1) → LeavesInM (FF none) n x.P fn tmps R ds' .returning w
  | [], [], S, S1, e, w, hrel, _, hl, hR => by cases hl; exact hR w e (.refl hrel)
  | [], _ :: _, _, _, _, _, _, h, _, _ => h.elim
  | _ :: _, [], _, _, _, _, _, h, _, _ => h.elim
  | .quiet :: ds, d :: ds', S, S1, e, w, hrel, hd, hl, hR => by
    obtain ⟨⟨g, cap, ht, hqu, hsz4⟩, hd'⟩ := hd
    have hl' : leaveD dc ds S = some S1 := hl
    refine ⟨by simp, .inr ⟨(fun h => by cases h), .func g, cap, g, d.args ++ cap, ht, ?_, (fun _ _ => trivial), ?_⟩⟩
    · obtain ⟨⟨fn, hf, hb⟩, _⟩ := hq g hqu #[] e S w 0 hrel (by simp)
      rw [ht]
      show (callFunc g (d.args ++ cap)).run x.P w = _
      have hn : (fn.name == "runtime.NumGoroutine") = false := by simpa using hx.name g fn hf
      have hbn : fn.body.isNone = false := by cases hbb : fn.body with
        | none => rw [hbb] at hb; cases hb
        | some _ => rfl
      unfold callFunc
      simp only [Sem.run_bind, run_program, Result.andThen_ok, hf, hn, Bool.false_eq_true, if_false, hbn, Sem.run_pure]
    · obtain ⟨_, hc⟩ := hq g hqu (d.args ++ cap) e S w (n - 1) hrel hsz4
      refine ⟨trivial, fun c cs hm hroom => ?_⟩
      obtain ⟨en, u', w', fr, ⟨⟨v, rfl⟩, rfl, hgr⟩, h1, h2, h3, h4⟩ := hc.2 c cs hm hroom
      refine ⟨_, _, _, fr, ?_, h1, h2, h3, h4⟩
      exact leave_ok hx hq hdc (Stp.grown hrel hgr).rel hd' hl' fun w1 e1 hw1 => hR w1 e1 ((Stp.grown hrel hgr).trans hw1)
  | .mark i :: ds, d :: ds', S, S1, e, w, hrel, hd, hl, hR => by
    obtain ⟨⟨b, sh, hb, rfl⟩, hd'⟩ := hd
    simp only [leaveD] at hl
    split at hl
    · rename_i hg
      obtain ⟨b', sh', o', h1, h2, h3, h4⟩ := hrel.obj i _ hg
      rw [hb] at h1; cases h1
      cases h3
      have hlt : b < w.heap.size := (Array.getElem?_eq_some_iff.1 h2).1
      have hst := Stp.drop (w1 := w.putObj b (.deferred none)) hrel hg hb (fun c el fz hc => by rw [h2] at hc; cases hc) (fun k hk => World.putObj_heap_other hk) World.putObj_size ⟨rfl, rfl, rfl⟩
      refine ⟨by simp, .inl ⟨b, _, rfl, run_takeDeferred h2, ?_⟩⟩
      exact leave_ok hx hq hdc hst.rel hd' hl fun w1 e1 hw1 => hR w1 e1 (hst.trans hw1)
    · cases hl
  | .fn g l :: ds, d :: ds', S, S1, e, w, hrel, hd, hl, hR => by
    obtain ⟨⟨cap, ht, hal⟩, hd'⟩ := hd
    simp only [leaveD] at hl
    split at hl
    · rename_i S2 hS2
      obtain ⟨⟨fn0, hf, hb⟩, hc⟩ := hdc g l S S2 hS2 (d.args ++ cap) e w (n - 1) hrel hal
      refine ⟨by simp, .inr ⟨(fun h => by cases h), .func g, cap, g, d.args ++ cap, ht, ?_, (fun _ _ => trivial), ?_⟩⟩
      · rw [ht]
        show (callFunc g (d.args ++ cap)).run x.P w = _
        have hn : (fn0.name == "runtime.NumGoroutine") = false := by simpa using hx.name g fn0 hf
        have hbn : fn0.body.isNone = false := by cases hbb : fn0.body with
          | none => rw [hbb] at hb; cases hb
          | some _ => rfl
        unfold callFunc
        simp only [Sem.run_bind, run_program, Result.andThen_ok, hf, hn, Bool.false_eq_true, if_false, hbn, Sem.run_pure]
      · refine ⟨trivial, fun c cs hm hroom => ?_⟩
        obtain ⟨en, u', w', fr, ⟨rfl, ⟨v, rfl⟩, e2, hst⟩, h1, h2, h3, h4⟩ := hc.2 c cs hm hroom
        refine ⟨_, _, _, fr, ?_, h1, h2, h3, h4⟩
        exact leave_ok hx hq hdc hst.rel (All2.mono (fun _ _ h => h.mono hst.le) hd') hl fun w1 e1 hw1 => hR w1 e1 (hst.trans hw1)
    · cases hl
end Go.X
