import Derived.Test.YtaknejhfphalaaaGreatDoorXCall2
/-
  Part twenty: rounds; the executor's calls are the model's.
-/
namespace Go.X
open Go
variable {x : Cx} {e : Env} {S : AS} {w : World} {N : Nat} {f : Fr} {a : Act}

theorem enterPs_ok : ∀ {ps : List Nat} {args args' : List Value} {f f1 : Fr} {t : Array Value}, FR e N f t → All2 (VR e) args args' → enterPs N ps args f = some f1 →
    ps.length = args'.length ∧ FR e N f1 ((ps.zip args').foldl (fun t (p : Nat × Value) => t.setIfInBounds p.1 p.2) t)
  | [], [], [], f, f1, t, hf, _, h => by cases h; exact ⟨rfl, hf⟩
  | [], [], _ :: _, _, _, _, _, h, _ => h.elim
  | [], _ :: _, [], _, _, _, _, h, _ => h.elim
  | [], _ :: _, _ :: _, _, _, _, _, _, h => by cases h
  | _ :: _, [], [], _, _, _, _, _, h => by cases h
  | _ :: _, [], _ :: _, _, _, _, _, h, _ => h.elim
  | _ :: _, _ :: _, [], _, _, _, _, h, _ => h.elim
  | p :: ps, v :: l, v' :: l', f, f1, t, hf, ha, h => by
    simp only [enterPs] at h
    split at h
    · rename_i hlt
      have h1 : FR e N (f.set p (some v)) (t.setIfInBounds p v') := by
        have := FR.put (a := { tmps := t, defers := [] }) (dst := some p) hf ha.1 (show putV N f (some p) v = some (f.set p (some v)) by simp only [putV]; rw [blt_iff.2 hlt])
        exact this
      obtain ⟨h2, h3⟩ := enterPs_ok h1 ha.2 h
      exact ⟨by simp [h2], h3⟩
    · cases h
theorem yield_ok (hx : CxOK x) {call : CallF} (hcall : CallOK x call) {k : Nat} (hdraw : ∀ r n N, DrawOK x call r n N) {l : Nat} {args args' : List Value} {v : Value} {S1 : AS} {n b sh : Nat}
    (hrel : Rel x e S w) (ha : All2 (VR e) args args') (hb : e.blk l = some (b, sh)) (h : callYield x k call l args S = some (v, S1)) :
    ∃ fn tmps assign body, (Instr.yield b args'.toArray).run x.P w = .ok (.round b fn tmps assign body) w ∧ RoundIn (FF none) n x.P b fn tmps assign body w (RetOK x e S w v S1) := by
  unfold callYield at h
  split at h
  · rename_i N f ps assign body hg
    obtain ⟨r, h1, h2, h3, h4, h5, h6, h7, _⟩ := Stp.putLoop (st1 := .ready) (pend1 := none) hrel hg hb
    split at h
    · rename_i f1 hf1
      obtain ⟨hlen, hfr⟩ := enterPs_ok h7 ha hf1
      have hys := run_yield (P := x.P) (args := args'.toArray) h1 (by rw [h4]; simp [hlen])
      refine ⟨r.fn, _, r.assign, r.body, hys, ?_⟩
      have hzip : ((r.params.zip args'.toArray).foldl (fun (tmps : Array Value) (p : Nat × Value) => tmps.setIfInBounds p.1 p.2) r.tmps) = ((ps.zip args').foldl (fun t (p : Nat × Value) => t.setIfInBounds p.1 p.2) r.tmps) := by
        rw [h4, ← Array.foldl_toList]; simp
      split at h
      · rename_i s hs
        split at h
        · rename_i M g qs as bd hg2
          split at h
          · rename_i ex s2 hs2
            refine roundIn_of_wpIn trivial ?_
            rw [h5, h6]
            have hsr : SR x e N { f := f1, ds := [], S := S } { tmps := (r.params.zip args'.toArray).foldl (fun (tmps : Array Value) (p : Nat × Value) => tmps.setIfInBounds p.1 p.2) r.tmps, defers := [] } :=
              ⟨by rw [hzip]; exact hfr, trivial⟩
            refine (xcode_ok hx hcall (r := some b) (n := n) (hdraw _ _ _) (rangeF_ok hcall hx) k).1 assign .normal _ s e _ w _ hrel hsr hs fun a1 w1 haft => ?_
            obtain ⟨e1, h8, h9⟩ := haft
            have hb1 := h8.le.blk _ _ hb
            obtain ⟨r1, h10, h11, h12, _, _, _, _, h13⟩ := Stp.putLoop (st1 := .busy) (pend1 := none) h8.rel hg2 hb1
            have hwe : (w1.putObj b (.loop { r1 with state := .busy, pending := none })) = w1.putObj b (.loop { r1 with state := .busy }) := by rw [← h12]
            rw [hwe] at h13
            refine ⟨_, run_beginRound h10 h11, ?_⟩
            refine (xcode_ok hx hcall (r := some b) (n := n) (hdraw _ _ _) (rangeF_ok hcall hx) k).1 body ex { f := s.f, ds := s.ds, S := { s.S with heap := s.S.heap.set l (some (.loop .busy none M g qs as bd)) } } s2 e1 a1 _ _ h13.rel ⟨h9.fr, h9.ds⟩ hs2 fun a2 w2 haft => ?_
            obtain ⟨e2, h14, h15⟩ := haft
            have hb2 := h14.le.blk _ _ hb1
            unfold yieldEnd at h
            split at h
            · rename_i M2 g2 qs2 as2 bd2 hg3
              have hall := (h8.trans h13).trans h14
              split at h
              · cases h
                obtain ⟨r2, h16, _, _, _, _, _, _, h17⟩ := Stp.putLoop (st1 := .ready) (pend1 := none) h14.rel hg3 hb2
                exact ⟨_, _, run_endRound none h16, e2, hall.trans h17, .bool true⟩
              · rename_i id
                cases h
                obtain ⟨r2, h16, _, _, _, _, _, _, h17⟩ := Stp.putLoop (st1 := .done) (pend1 := some (.exit id)) h14.rel hg3 hb2
                exact ⟨_, _, run_endRound (some (.exit id)) h16, e2, hall.trans h17, .bool false⟩
              · cases h
                obtain ⟨r2, h16, _, _, _, _, _, _, h17⟩ := Stp.putLoop (st1 := .done) (pend1 := some .ret) h14.rel hg3 hb2
                exact ⟨_, _, run_endRound (some .ret) h16, e2, hall.trans h17, .bool false⟩
            · cases h
          · cases h
        · cases h
      · cases h
    · cases h
  · cases h
/-- what is asked of a function run outcome by outcome -/
def MultiOK (x : Cx) (call : CallF) (k : Nat) : Prop := ∀ g fn c args S v S1, x.P.funcs[g]? = some fn → fn.body = some c → callM x k call fn c args S = some (v, S1) → ∀ e w args' n, Rel x e S w → All2 (VR e) args args' → CallsIn (FF none) n x.P g args'.toArray w (RetOK x e S w v S1)
/-- THE EXECUTOR's CALLS ARE THE MODEL's. -/
theorem xcall_ok (hx : CxOK x) (hq : QuietOK x) {hook : CallF} (hh : HookOK x hook) (hdraw : ∀ call r n N, CallOK x call → DrawOK x call r n N) (hmulti : ∀ call k, CallOK x call → MultiOK x call k) : ∀ k, CallOK x (xcall x hook k)
  | 0 => by constructor <;> (intro g args S v S1 h; cases h)
  | k + 1 => by
    have ih := xcall_ok hx hq hh hdraw hmulti k
    refine ⟨fun g args S v S1 h e w args' n hrel ha => ?_, fun l args S v S1 h e w args' n b sh hrel ha hb => ?_⟩
    · change callFn x hook k (xcall x hook k) g args S = some (v, S1) at h
      unfold callFn at h
      split at h
      · rename_i r hr
        cases h
        exact hh.func g args S v S1 hr e w args' n hrel ha
      · split at h
        · rename_i fn hf
          split at h
          · rename_i c hb
            split at h
            · exact hmulti _ k ih g fn c args S v S1 hf hb h e w args' n hrel ha
            split at h
            · cases h
            · rename_i ex s hne hc
              split at h
              · rename_i S2 hl
                split at h
                · rename_i vs hr
                  cases h
                  exact body_ok hx hq ih (fun N => hdraw _ _ _ _ ih) (fun N => rangeF_ok ih hx) hf hb hrel ha (fun id hid => hne id hid) (dcall_ok hx ih (fun n N => hdraw _ _ _ _ ih) (fun n N => rangeF_ok ih hx)) hc hl hr
                · cases h
              · cases h
            · cases h
          · cases h
        · cases h
    · exact yield_ok hx ih (fun r n N => hdraw _ _ _ _ ih) hrel ha hb h
end Go.X
