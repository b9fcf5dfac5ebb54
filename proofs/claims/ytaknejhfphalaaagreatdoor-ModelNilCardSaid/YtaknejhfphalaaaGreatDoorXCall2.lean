import Derived.Test.YtaknejhfphalaaaGreatDoorXCall
/-
  Part nineteen: calls of functions, all depths.
-/
namespace Go.X
open Go
variable {x : Cx} {e : Env} {S : AS} {w : World} {N : Nat} {f : Fr} {a : Act}

/-- a hook's word is worth as much as a call's -/
structure HookOK (x : Cx) (hook : CallF) : Prop where
  func : ∀ g args S v S1, hook (.func g) args S = some (v, S1) → ∀ e w args' n, Rel x e S w → All2 (VR e) args args' → CallsIn (FF none) n x.P g args'.toArray w (RetOK x e S w v S1)

theorem dcall_ok (hx : CxOK x) {call : CallF} (hcall : CallOK x call) {k : Nat} (hdraw : ∀ n N, DrawOK x call none n N) (hrange : ∀ n N, RangeOK x call none n N) : DcallOK x (dcall x call k) := by
  intro g l S S1 h args e w n hrel ha
  unfold dcall at h
  split at h
  · rename_i fn hf
    split at h
    · rename_i c hb
      refine ⟨⟨fn, hf, by rw [hb]; rfl⟩, ?_⟩
      have harr : args = args.toList.toArray := by simp
      have key : ∀ (ex : XE) (s : St), (∀ id, ex ≠ .exit id) → xcode x call false (Nat.max l.length fn.ntmps) k c { f := enterF 0 l .leaf, ds := [], S := S } = some (ex, s) → s.ds = [] → (∃ vs, resultsV x s.f s.S fn.results.toList = some vs) → s.S = S1 →
          CallsDIn (FF none) n x.P g args .returning w (fun en u w' => u = .returning ∧ (∃ v, en = .returned v) ∧ ∃ e1, Stp x e S w e1 S1 w') := by
        intro ex s hex hc hds hr hS
        subst hS
        obtain ⟨vs, hr⟩ := hr
        refine callsDIn_of_wp hf hb trivial (R := fun en w' => (∃ v, en = .returned v) ∧ ∃ e1, Stp x e S w e1 s.S w') ?_
        rw [harr]
        refine (xcode_ok hx hcall (r := none) (n := n) (hdraw n _) (hrange n _) k).1 c ex { f := enterF 0 l .leaf, ds := [], S := S } s e _ w _ hrel ⟨enter_ok ha fn.ntmps, trivial⟩ hc fun a1 w1 haft => ?_
        obtain ⟨e1, h1, h2⟩ := haft
        have hd : a1.defers = [] := by
          have := h2.ds
          rw [hds] at this
          cases hq : a1.defers with
          | nil => rfl
          | cons _ _ => rw [hq] at this; exact this.elim
        obtain ⟨v', h4, h5⟩ := results_ok h1.rel h2.fr hr
        have fin : bodyPost x.P fn (fun en w' => (∃ v, en = .returned v) ∧ ∃ e1, Stp x e S w e1 s.S w') .normal a1 w1 := ⟨hd, v', h4, ⟨v', rfl⟩, e1, h1⟩
        cases ex with
        | normal => exact fin
        | ret => exact fin
        | exit id => exact absurd rfl (hex id)
      split at h
      · cases h
      · rename_i ex s hne hc
        split at h
        · rename_i hds
          split at h
          · rename_i vs hr
            cases h
            exact key ex s (fun id hh => hne id hh) hc hds ⟨vs, hr⟩ rfl
          · cases h
        · cases h
      · cases h
    · cases h
  · cases h
theorem body_ok (hx : CxOK x) (hq : QuietOK x) {call : CallF} (hcall : CallOK x call) {n k : Nat} (hdraw : ∀ N, DrawOK x call none n N) (hrange : ∀ N, RangeOK x call none n N) {g : Nat} {fn : Func} {c : Code}
    (hf : x.P.funcs[g]? = some fn) (hb : fn.body = some c) {args args' : List Value} (hrel : Rel x e S w) (ha : All2 (VR e) args args') {ex : XE} {s : St} {S1 : AS} {vs : List Value}
    (hex : ∀ id, ex ≠ .exit id) {dc : Nat → List Value → AS → Option AS} (hdc : DcallOK x dc) (hc : xcode x call false (Nat.max args.length fn.ntmps) k c { f := enterF 0 args .leaf, ds := [], S := S } = some (ex, s)) (hl : leaveD dc s.ds s.S = some S1)
    (hr : resultsV x s.f S1 fn.results.toList = some vs) : CallsIn (FF none) n x.P g args'.toArray w (RetOK x e S w (one vs) S1) := by
  refine callsIn_of_wp_marks hf hb trivial ?_
  refine (xcode_ok hx hcall (r := none) (n := n) (hdraw _) (hrange _) k).1 c ex { f := enterF 0 args .leaf, ds := [], S := S } s e _ w _ hrel ⟨enter_ok ha fn.ntmps, trivial⟩ hc fun a1 w1 haft => ?_
  obtain ⟨e1, h1, h2⟩ := haft
  have fin : LeavesInM (FF none) n x.P fn a1.tmps (RetOK x e S w (one vs) S1) a1.defers .returning w1 := by
    refine leave_ok hx hq hdc h1.rel h2.ds hl fun w2 e2 h3 => ?_
    obtain ⟨v', h4, h5⟩ := results_ok h3.rel (h2.fr.mono h3.le) hr
    exact ⟨v', h4, e2, h1.trans h3, h5⟩
  cases ex with
  | normal => exact fin
  | ret => exact fin
  | exit id => exact absurd rfl (hex id)

/-! loops over functions -/
theorem Stp.putLoop (h : Rel x e S w) {i b sh : Nat} {st st1 : LoopState} {pend pend1 : Option Code} {M : Nat} {g : Fr} {ps : List Nat} {as bd : Code} (hg : S.heap.get i = some (.loop st pend M g ps as bd)) (hb : e.blk i = some (b, sh)) :
    ∃ r : Loop, w.heap[b]? = some (.loop r) ∧ r.state = st ∧ r.pending = pend ∧ r.params = ps.toArray ∧ r.assign = as ∧ r.body = bd ∧ FR e M g r.tmps ∧
      Stp x e S w e { S with heap := S.heap.set i (some (.loop st1 pend1 M g ps as bd)) } (w.putObj b (.loop { r with state := st1, pending := pend1 })) := by
  obtain ⟨b', sh', o', h1, h2, h3, h4⟩ := h.obj i _ hg
  rw [hb] at h1; cases h1
  cases h3 with
  | loop _ _ _ _ _ _ _ r h5 h6 h7 h8 h9 h10 =>
  have hlt : b < w.heap.size := (Array.getElem?_eq_some_iff.1 h2).1
  exact ⟨r, h2, h5, h6, h7, h8, h9, h10, Stp.upd h hg hb h2 (World.putObj_heap_same hlt) (.loop st1 pend1 M g ps as bd _ rfl rfl h7 h8 h9 h10) (fun c el fz hc => by cases hc) (fun k hk => World.putObj_heap_other hk) World.putObj_size ⟨rfl, rfl, rfl⟩⟩
theorem hasBody_ok {g : Nat} (h : hasBody x g = true) : ∃ fn, x.P.funcs[g]? = some fn ∧ fn.body.isNone = false := by
  unfold hasBody at h
  split at h
  · rename_i fn hf; exact ⟨fn, hf, by cases hb : fn.body <;> simp_all⟩
  · cases h
theorem rangeF_ok {call : CallF} (hcall : CallOK x call) (hx : CxOK x) {r : Option Nat} {n N : Nat} : RangeOK x call r n N := by
  intro g ps assign body ex s s1 e a w Q hrel hs h hQ
  unfold rangeF at h
  cases r with
  | some l => cases h
  | none =>
  simp only [Option.isSome_none] at h
  have hgv := ev_ok hrel hs.fr g
  split at h
  · rename_i gf first captured hge
    rw [hge] at hgv
    obtain ⟨d1, d2, hy, hd1, hd2⟩ := hgv.func_inv
    split at h
    · cases h
    · rename_i hbody
      obtain ⟨fn, hf, hb⟩ := hasBody_ok hbody
      have hn : (fn.name == "runtime.NumGoroutine") = false := by simpa using hx.name gf fn hf
      have st1 := Stp.new hrel .deferred (.deferred (some [])) .deferred
      have hle1 := st1.le
      generalize he1 : e.add s.S.next w.heap.size 0 (sizeOfObj (.deferred (some []))) = e1 at st1 hle1
      have hD : e1.blk s.S.next = some (w.heap.size, 0) := by rw [← he1]; simp [Env.add]
      refine wpIn_rangeFunc fun fnid _ => ?_
      have st2 := Stp.new st1.rel (.loop .ready none N s.f ps.toList assign body) (.loop { state := .ready, pending := none, fn := fnid, tmps := a.tmps, params := ps, assign, body, defers := w.heap.size })
        (.loop _ _ _ _ _ _ _ _ rfl rfl (by simp) rfl rfl ((hs.fr.mono hle1).mono (Env.le_add (st1.rel.fresh _ (Nat.le_refl _)))))
      generalize he2 : e1.add (addObj s.S .deferred).next _ 0 _ = e2 at st2
      have hL : e2.blk (Nat.succ s.S.next) = some (w.heap.size + 1, 0) := by rw [← he2]; simp [Env.add, addObj]
      have hst := st1.trans st2
      have hargs : All2 (VR e2) (first.toList ++ ([.func (.yield (Nat.succ s.S.next)) #[] #[]] ++ captured.toList)) (d1.toList ++ ([.func (.yield (w.heap.size + 1)) #[] #[]] ++ d2.toList)) :=
        All2.append (All2.mono (fun _ _ h => h.mono hst.le) hd1) (All2.append (⟨.yield _ _ _ hL, trivial⟩) (All2.mono (fun _ _ h => h.mono hst.le) hd2))
      split at h
      · rename_i v S3 hcv
        let W2 : World := (w.alloc (.deferred (some []))).alloc (.loop { state := .ready, pending := none, fn := fnid, tmps := a.tmps, params := ps, assign, body, defers := w.heap.size })
        refine ⟨w.heap.size + 1, _, W2, { target := .fn (.func gf) d2, args := d1 ++ #[Value.func (.yield (w.heap.size + 1)) #[] #[]] }, W2, gf, (d1.toList ++ ([Value.func (.yield (w.heap.size + 1)) #[] #[]] ++ d2.toList)).toArray, W2,
          run_enterLoop_outer fnid a.tmps ps assign body, ?_, (fun _ _ => trivial), ?_, (fun h => by cases h), ?_⟩
        · have hm : Array.map a.eval #[Operand.const (Value.func (.yield (w.heap.size + 1)) #[] #[])] = #[Value.func (.yield (w.heap.size + 1)) #[] #[]] := by simp [Act.eval]
          simp only [resolve, hy, Deferred.ofValue, hm]
          rfl
        · show (callFunc gf ((d1 ++ #[Value.func (.yield (w.heap.size + 1)) #[] #[]]) ++ d2)).run x.P _ = _
          have harr : (d1 ++ #[Value.func (.yield (w.heap.size + 1)) #[] #[]]) ++ d2 = (d1.toList ++ ([Value.func (.yield (w.heap.size + 1)) #[] #[]] ++ d2.toList)).toArray := by apply Array.ext'; simp
          rw [harr]
          unfold callFunc
          simp only [Sem.run_bind, run_program, Result.andThen_ok, hf, hn, Bool.false_eq_true, if_false, hb, Sem.run_pure]
        · refine (hcall.func gf _ _ v S3 hcv e2 _ _ (n - 1) st2.rel hargs).mono fun en w3 hen => ?_
          cases en with
          | panicked _ => exact hen.elim
          | outgrown => exact hen.elim
          | returned v' =>
          obtain ⟨e3, h3, _⟩ := hen
          unfold rangeEnd at h
          split at h
          · rename_i st pend M f0 ps0 as0 bd0 hg3
            have hL3 := h3.le.blk _ _ hL
            obtain ⟨r0, h4, h5, h6, _, _, _, _, h7⟩ := Stp.putLoop (st1 := .exhausted) (pend1 := pend) h3.rel hg3 hL3
            split at h
            · cases h
            · rename_i hnb
              have hnb' : r0.state ≠ .busy := by rw [h5]; intro hh; exact hnb hh
              have hrun := run_endLoop (P := x.P) h4 hnb'
              have hwe : (w3.putObj (w.heap.size + 1) (.loop { r0 with state := .exhausted, pending := pend })) = w3.putObj (w.heap.size + 1) (.loop { r0 with state := .exhausted }) := by rw [← h6]
              rw [hwe] at h7
              have hall := (hst.trans h3).trans h7
              have hsr : SR x e3 N { f := s.f, ds := .mark s.S.next :: s.ds, S := { S3 with heap := S3.heap.set (Nat.succ s.S.next) (some (.loop .exhausted pend M f0 ps0 as0 bd0)) } }
                  { a with defers := [{ target := .collected w.heap.size, args := #[] }] ++ a.defers } :=
                ⟨hs.fr.mono hall.le, ⟨w.heap.size, 0, h3.le.blk _ _ (st2.le.blk _ _ hD), rfl⟩, All2.mono (fun _ _ h => h.mono hall.le) hs.ds⟩
              split at h
              · cases h
                refine ⟨none, w3.putObj (w.heap.size + 1) (.loop { r0 with state := .exhausted }), hrun.trans (congrArg (fun p => Result.ok p (w3.putObj (w.heap.size + 1) (.loop { r0 with state := .exhausted }))) h6), ?_⟩
                exact hQ _ _ ⟨e3, hall, hsr⟩
              · rename_i c
                split at h
                · rename_i e4 he4
                  cases h
                  refine ⟨some c, w3.putObj (w.heap.size + 1) (.loop { r0 with state := .exhausted }), hrun.trans (congrArg (fun p => Result.ok p (w3.putObj (w.heap.size + 1) (.loop { r0 with state := .exhausted }))) h6), ?_⟩
                  have hq := hQ _ _ ⟨e3, hall, hsr⟩
                  unfold jumpOf at he4
                  split at he4
                  · cases he4; exact wpIn_ret hq
                  · cases he4; exact wpIn_exit hq
                  · cases he4
                · cases h
          · cases h
      · cases h
  · cases h
end Go.X
