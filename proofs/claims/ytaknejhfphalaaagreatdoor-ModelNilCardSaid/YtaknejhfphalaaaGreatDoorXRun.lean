import Derived.Test.YtaknejhfphalaaaGreatDoorXOp11
import Derived.RangeFuncLeaves
import Derived.TacticsIn
/-
  Part sixteen: operations one after the other.
-/
namespace Go.X
open Go
variable {x : Cx} {e : Env} {S : AS} {w : World} {N : Nat} {f : Fr} {a : Act}

/-- the fence that lets everything in; of a frame of this make -/
def FF (r : Option Nat) : Fence := { fn := fun _ => True, depth := none, alive := false, round := r }

/-- what a call hands back -/
def RetOK (x : Cx) (e : Env) (S : AS) (w : World) (v : Value) (S1 : AS) : Ending → World → Prop
  | .returned v', w1 => ∃ e1, Stp x e S w e1 S1 w1 ∧ VR e1 v v'
  | _, _ => False
structure CallOK (x : Cx) (call : CallF) : Prop where
  func : ∀ g args S v S1, call (.func g) args S = some (v, S1) → ∀ e w args' n, Rel x e S w → All2 (VR e) args args' → CallsIn (FF none) n x.P g args'.toArray w (RetOK x e S w v S1)
  yield : ∀ l args S v S1, call (.yield l) args S = some (v, S1) → ∀ e w args' n b sh, Rel x e S w → All2 (VR e) args args' → e.blk l = some (b, sh) →
    ∃ fn tmps assign body, (Instr.yield b args'.toArray).run x.P w = .ok (.round b fn tmps assign body) w ∧ RoundIn (FF none) n x.P b fn tmps assign body w (RetOK x e S w v S1)
/-- what bits.Add64 is to the model -/
def add64F : Array Value → Sem Value := fun args => do
  let (x, y, c) ← Extern.MathBitsCarry.three "Add64" args
  pure (Extern.MathBitsCarry.pair ((x + y + c) % Extern.MathBitsCarry.m64) ((x + y + c) / Extern.MathBitsCarry.m64))
/-- what is asked of the program -/
structure CxOK (x : Cx) : Prop where
  name : ∀ (g : Nat) (fn : Func), x.P.funcs[g]? = some fn → fn.name ≠ "runtime.NumGoroutine"
  noEscape : ∀ (g : Nat) (fn : Func), x.P.funcs[g]? = some fn → fn.body = none → fn.name = "internal/abi.NoEscape" → Extern.findNext fn = none ∧ Extern.find fn = some Extern.AbiNoEscape.same
  makeNoZero : ∀ (g : Nat) (fn : Func), x.P.funcs[g]? = some fn → fn.body = none → fn.name = "internal/bytealg.MakeNoZero" → Extern.findNext fn = none ∧ Extern.find fn = some (Extern.BytealgMakeNoZero.makeNoZero fn.params fn.resultTypes)
  mapsClone : ∀ (g : Nat) (fn : Func), x.P.funcs[g]? = some fn → fn.body = none → fn.name = "maps.clone" → Extern.findNext fn = none ∧ Extern.find fn = some Extern.MapsClone.clone
  add64 : ∀ (g : Nat) (fn : Func), x.P.funcs[g]? = some fn → fn.body = none → fn.name = "math/bits.Add64" → Extern.findNext fn = none ∧ Extern.find fn = some add64F

/-- a deferred call -/
def DER (x : Cx) (e : Env) : DE → Deferred → Prop
  | .quiet, d => ∃ g cap, d.target = .fn (.func g) cap ∧ x.quiet g = true ∧ (d.args ++ cap).size ≤ 4
  | .mark i, d => ∃ b sh, e.blk i = some (b, sh) ∧ d = { target := .collected b, args := #[] }
  | .fn g l, d => ∃ cap, d.target = .fn (.func g) cap ∧ All2 (VR e) l (d.args ++ cap).toList
structure SR (x : Cx) (e : Env) (N : Nat) (s : St) (a : Act) : Prop where
  fr : FR e N s.f a.tmps
  ds : All2 (DER x e) s.ds a.defers
theorem DER.mono {e e' : Env} (he : e.le e') {d : DE} {d' : Deferred} (h : DER x e d d') : DER x e' d d' := by
  cases d with
  | quiet => exact h
  | mark i => obtain ⟨b, sh, h1, h2⟩ := h; exact ⟨b, sh, he.blk _ _ h1, h2⟩
  | fn g l => obtain ⟨cap, h1, h2⟩ := h; exact ⟨cap, h1, All2.mono (fun _ _ h => h.mono he) h2⟩
theorem SR.mono {e e' : Env} (he : e.le e') {s : St} (h : SR x e N s a) : SR x e' N s a := ⟨h.fr.mono he, All2.mono (fun _ _ h => h.mono he) h.ds⟩

theorem FR.put {v v' : Value} {dst : Option Nat} {f1 : Fr} (h : FR e N f a.tmps) (hv : VR e v v') (hp : putV N f dst v = some f1) : FR e N f1 (a.put dst v').tmps := by
  unfold putV at hp
  split at hp
  · cases hp; exact h
  · rename_i d
    split at hp
    · rename_i hlt
      cases hp
      have hlt := blt_iff.1 hlt
      refine ⟨by simp [Act.put, h.size], fun i => ?_⟩
      by_cases hi : i = d
      · subst hi
        have h1 : tmp0 (f.set i (some v)) i = v := by simp [tmp0, PT.get_set_same]
        have h2 : (a.put (some i) v').tmps.getD i undef = v' := by
          have : i < a.tmps.size := by rw [h.size]; exact hlt
          simp [Act.put, Array.getD, this]
        rw [h1, h2]; exact hv
      · have h1 : tmp0 (f.set d (some v)) i = tmp0 f i := by simp [tmp0, PT.get_set_other _ _ _ _ hi]
        have h2 : (a.put (some d) v').tmps.getD i undef = a.tmps.getD i undef := by
          simp only [Act.put, Array.getD_eq_getD_getElem?, Array.getElem?_setIfInBounds_ne (Ne.symm hi)]
        rw [h1, h2]; exact h.val i
    · cases hp
theorem Act.put_defs (dst : Option Nat) (v : Value) : (a.put dst v).defers = a.defers := by cases dst <;> rfl
theorem SR.put {v v' : Value} {dst : Option Nat} {s s1 : St} {S1 : AS} (h : SR x e N s a) (hv : VR e v v') (hp : s.put N dst v S1 = some s1) : SR x e N s1 (a.put dst v') ∧ s1.S = S1 := by
  unfold St.put at hp
  split at hp
  · rename_i f1 hf
    cases hp
    exact ⟨⟨h.fr.put hv hf, by rw [Act.put_defs]; exact h.ds⟩, rfl⟩
  · cases hp
/-- what is shown of a stretch of code's end -/
def Aft (x : Cx) (e : Env) (S : AS) (w : World) (N : Nat) (s1 : St) (a1 : Act) (w1 : World) : Prop := ∃ e1, Stp x e S w e1 s1.S w1 ∧ SR x e1 N s1 a1

theorem digits_size : ∀ (n t : Nat) (acc : Array Value), (Extern.BytealgMakeNoZero.digits n t acc).size = acc.size + n
  | 0, _, _ => rfl
  | n + 1, t, acc => by rw [Extern.BytealgMakeNoZero.digits, digits_size n]; simp; omega
theorem externV_ok (hx : CxOK x) (h : Rel x e S w) {g : Nat} {fn : Func} (hf : x.P.funcs[g]? = some fn) (hb : fn.body = none) {args args' : List Value} (ha : All2 (VR e) args args') {v : Value} {S1 : AS}
    (hv : externV x fn args S = some (v, S1)) : ∃ v' e1 w1, (callFunc g args'.toArray).run x.P w = .ok (.value v') w1 ∧ Stp x e S w e1 S1 w1 ∧ VR e1 v v' := by
  have hcall : ∀ (E : Array Value → Sem Value), Extern.findNext fn = none → Extern.find fn = some E → (callFunc g args'.toArray).run x.P w = ((E args'.toArray).run x.P w).andThen fun a w => .ok (.value a) w := by
    intro E h1 h2
    unfold callFunc
    have hn : (fn.name == "runtime.NumGoroutine") = false := by simpa using hx.name g fn hf
    simp only [Sem.run_bind, run_program, Result.andThen_ok, hf, hn, Bool.false_eq_true, if_false, hb, Option.isNone_none, if_true, run_mark, h1, h2, Sem.run_pure]
  unfold externV at hv
  split at hv
  · rename_i hn
    obtain ⟨h1, h2⟩ := hx.noEscape g fn hf hb hn
    split at hv
    · cases hv
      match args', ha with
      | [v'], ha => exact ⟨v', e, w, by rw [hcall _ h1 h2]; rfl, .refl h, ha.1⟩
    · cases hv
  · split at hv
    · rename_i hn
      obtain ⟨h1, h2⟩ := hx.makeNoZero g fn hf hb hn
      split at hv
      · rename_i n
        split at hv
        · rename_i t ts ht
          split at hv
          · rename_i elem hu
            split at hv
            · rename_i hle
              cases hv
              match args', ha with
              | [v'], ha =>
              have hv' : v' = _ := VR.int_inv ha.1
              subst hv'
              have hrt : fn.resultTypes[0]? = some t := by rw [← Array.getElem?_toList, ht]; rfl
              have hle := ble_iff.1 hle
              have hge : n ≤ (Question.appendCap n 0 elem).cut (w.tape w.drawn (.appendCap n 0 elem)) := by simp [Question.cut]
              have hmax : (Question.appendCap n 0 elem).cut (w.tape w.drawn (.appendCap n 0 elem)) ≤ maxLen := by
                have := Nat.mod_lt (w.tape w.drawn (.appendCap n 0 elem)) (show 0 < 2 ^ 63 - n by omega)
                simp only [Question.cut, maxLen]
                omega
              generalize hcap : (Question.appendCap n 0 elem).cut (w.tape w.drawn (.appendCap n 0 elem)) = cap at hge hmax
              generalize hby : (Question.extern "internal/bytealg.MakeNoZero.bytes" 0).cut (w.tape (w.drawn + 1) (.extern "internal/bytealg.MakeNoZero.bytes" 0)) = bytes
              have hd1 := Stp.drew h
              have hd2 := Stp.drew hd1.rel
              have hsz : (Extern.BytealgMakeNoZero.digits cap bytes #[]).size = cap := by rw [digits_size]; simp
              obtain ⟨e1, _, h3, h4, h5⟩ := new_row hd2.rel (el := elem) (wh := false) (l := []) (c := Extern.BytealgMakeNoZero.digits cap bytes #[]) (fun k v hk => by simp at hk) (by simp) (fun hh => by cases hh) (0, 0) (thawed_none _)
              refine ⟨.slice (some ⟨w.heap.size, 0, none⟩) n cap, e1, _, ?_, (hd1.trans hd2).trans h3, here_slice h4 h5 hge hmax (by rw [hsz]; omega)⟩
              rw [hcall _ h1 h2]
              have hn0 : ¬ ((Int.ofNat n) < 0 ∨ (Int.ofNat n) > 2 ^ 48) := by
                have : (Int.ofNat n) = (n : Int) := rfl
                rw [this]; omega
              have htn : (Int.ofNat n).toNat = n := rfl
              have hq2 : (Question.extern "internal/bytealg.MakeNoZero.bytes" 0).forced = false := rfl
              have hdef : Extern.BytealgMakeNoZero.makeNoZero fn.params fn.resultTypes #[.int .i64 (.ofNat n)] = (do
                  let some t := fn.resultTypes[0]? | stuck "bytealg.MakeNoZero: no result type"
                  let .slice elem ← underlying t | stuck "bytealg.MakeNoZero: slice type expected"
                  if (Int.ofNat n) < 0 || (Int.ofNat n) > 2 ^ 48 then runtimePanic (.error "makeslice: len out of range")
                  let cap ← choose (.appendCap (Int.ofNat n).toNat 0 elem)
                  askRoom cap
                  let bytes ← choose (.extern "internal/bytealg.MakeNoZero.bytes" 0)
                  let a ← Go.newRow elem (Extern.BytealgMakeNoZero.digits cap bytes #[])
                  pure (.slice (some a) (Int.ofNat n).toNat cap)) := rfl
              show ((Extern.BytealgMakeNoZero.makeNoZero fn.params fn.resultTypes #[.int .i64 (.ofNat n)]).run x.P w).andThen _ = _
              rw [hdef, hrt]
              have hc : (decide ((Int.ofNat n) < 0) || decide ((Int.ofNat n) > 2 ^ 48)) = false := by
                rw [Bool.or_eq_false_iff]
                exact ⟨decide_eq_false fun hh => hn0 (.inl hh), decide_eq_false fun hh => hn0 (.inr hh)⟩
              simp only [Sem.run_bind, run_underlying hu, Result.andThen_ok, hc, Bool.false_eq_true, if_false, htn, run_choose, Question.forced, hcap, run_askRoom, Sem.run_pure, Go.newRow, run_newObj]
              simp only [hby, Nat.zero_ne_one, decide_false, Bool.false_eq_true, if_false, Result.andThen_ok]
            · cases hv
          · cases hv
        · cases hv
      · cases hv
    · split at hv
      · rename_i hn
        obtain ⟨h1, h2⟩ := hx.mapsClone g fn hf hb hn
        split at hv
        · rename_i t u
          split at hv
          · rename_i r
            split at hv
            · rename_i es ck hg
              cases hv
              match args', ha with
              | [v'], ha =>
              obtain ⟨u', rfl, hu⟩ := VR.iface_inv ha.1
              obtain ⟨b, sh, hb2, rfl⟩ := VR.map_inv hu
              obtain ⟨b', sh', o', h3, h4, h5, h6⟩ := h.obj r _ hg
              rw [hb2] at h3; cases h3
              cases h5 with
              | map _ es' _ hes =>
              have hst := Stp.new h (.map es ck) (.map es' ck) (ObjR.mono (Env.le_add (h.fresh _ (Nat.le_refl _))) (.map es es' ck hes))
              refine ⟨.iface t (.map (some w.heap.size)), _, _, ?_, hst, .iface _ _ _ (.map S.next w.heap.size 0 (by simp [Env.add]))⟩
              rw [hcall _ h1 h2]
              show ((Extern.MapsClone.clone #[.iface t (.map (some b))]).run x.P w).andThen _ = _
              have hdef : Extern.MapsClone.clone #[.iface t (.map (some b))] = (do
                  let .map entries clock ← getObj b | stuck "maps.clone: a map expected"
                  pure (.iface t (.map (some (← newObj (.map entries clock)))))) := rfl
              rw [hdef]
              have hgo : (getObj b).run x.P w = .ok (.map es' ck) w := by simp [getObj, Sem.run, h4]
              simp only [Sem.run_bind, hgo, Result.andThen_ok, run_newObj, Sem.run_pure]
            · cases hv
          · cases hv
        · cases hv
      · split at hv
        · rename_i hn
          obtain ⟨h1, h2⟩ := hx.add64 g fn hf hb hn
          split at hv
          · rename_i p q r
            split at hv
            · rename_i n1 e1
              split at hv
              · rename_i n2 e2
                split at hv
                · rename_i n3 e3
                  split at hv
                  · rename_i hle
                    cases hv
                    match args', ha with
                    | [p', q', r'], ha =>
                    obtain ⟨k1, rfl⟩ := VR.nat_inv ha.1 e1
                    obtain ⟨k2, rfl⟩ := VR.nat_inv ha.2.1 e2
                    obtain ⟨k3, rfl⟩ := VR.nat_inv ha.2.2.1 e3
                    refine ⟨_, e, w, ?_, .refl h, .ground _ 2 rfl⟩
                    rw [hcall _ h1 h2]
                    have hc : ¬ (n3 > 1) := by have := ble_iff.1 hle; omega
                    have hd : (Extern.MathBitsCarry.three "Add64" #[.int k1 (.ofNat n1), .int k2 (.ofNat n2), .int k3 (.ofNat n3)]).run x.P w = .ok (n1, n2, n3) w := by
                      show (if n3 > 1 then unsupported (.noEntry ("extern/math/bits." ++ "Add64" ++ ": a carry that is neither 0 nor 1")) >>= fun _ => pure (n1, n2, n3) else pure () >>= fun _ => pure (n1, n2, n3) : Sem (Nat × Nat × Nat)).run x.P w = _
                      rw [if_neg hc]; rfl
                    unfold add64F
                    simp only [Sem.run_bind, hd, Result.andThen_ok, Sem.run_pure]
                    rfl
                  · cases hv
                · cases hv
              · cases hv
            · cases hv
          · cases hv
        · cases hv

theorem VR.not_bool {v v' : Value} (h : VR e v v') (hu : isUnk v = false) (hb : ∀ b, v ≠ .bool b) : ∀ b, v' ≠ .bool b := by
  intro b hh
  subst hh
  cases h with
  | any => simp [unk, isUnk] at hu
  | ground => exact hb _ rfl
theorem wanted_ok {ops : Array Oper} (h : FR e N f a.tmps) {o : Oper} {b : Bool} (hb : wantedV x ops.toList f o = some b) : Region.wanted o (yielded ops a.tmps) = b := by
  unfold wantedV at hb
  unfold Region.wanted
  split at hb
  · rename_i hg; rw [hg]; cases hb; rfl
  · rename_i j want hg
    rw [hg]
    simp only [nth_eq, Array.getElem?_toList] at hb
    show (yielded ops a.tmps j == some want) = b
    unfold yielded
    split at hb
    · rename_i oj hj
      simp only [hj, Option.bind_some]
      split at hb
      · rename_i d hd
        simp only [hd, Option.bind_some]
        have hv : VR e (ev x f (.tmp d)) (a.tmps.getD d undef) := h.val d
        split at hb
        · rename_i c hc
          cases hb
          rw [hc] at hv
          have h1 := hv.bool_inv
          have h2 : a.tmps[d]? = some (.bool c) := by
            rw [Array.getD_eq_getD_getElem?] at h1
            cases hq : a.tmps[d]? with
            | none => rw [hq] at h1; cases h1
            | some q => rw [hq] at h1; simp at h1; rw [h1]
          rw [h2]
          cases c <;> cases want <;> rfl
        · rename_i hnb
          split at hb
          · cases hb
          · rename_i hu
            cases hb
            have h1 := VR.not_bool hv hu (fun c hc => hnb c hc)
            cases hq : a.tmps[d]? with
            | none => rfl
            | some q =>
              have h2 : ∀ c, q ≠ .bool c := fun c hc => h1 c (by rw [Array.getD_eq_getD_getElem?, hq]; exact hc)
              cases q <;> first | rfl | exact absurd rfl (h2 _)
      · rename_i hd
        cases hb
        simp only [hd, Option.bind_none]; rfl
    · rename_i hj
      cases hb
      simp only [hj, Option.bind_none]; rfl

/-- an operation's word, taken up by the walk's rule -/
theorem sem_at {r : Option Nat} {o : Oper} (ho : ∀ c, o.op ≠ .defer c) : o.semAt (FF r).round a.eval = execOp a.eval o := by
  cases r with
  | none => exact Oper.semAt_none _ _
  | some l => exact Oper.semAt_some l _ _ ho
theorem no_defer {ρ : Operand → Value} {o : Oper} {nx : Next} {w1 : World} (hr : (execOp ρ o).run x.P w = .ok nx w1) (hn : ∀ d, nx ≠ .defer d) : ∀ c, o.op ≠ .defer c := by
  intro c hc
  unfold execOp at hr
  rw [hc] at hr
  simp only [Sem.run_bind] at hr
  cases hd : (resolve ρ c o.type).run x.P w with
  | halt _ _ => rw [hd] at hr; cases hr
  | ok d w2 => rw [hd] at hr; simp only [Result.andThen_ok, Sem.run_pure] at hr; cases hr; exact hn _ rfl
theorem upon_value {r : Option Nat} {n : Nat} {o : Oper} {K : Act → World → Prop} {Q : Exit → Act → World → Prop} {v : Value} {w1 : World}
    (hr : (execOp a.eval o).run x.P w = .ok (.value v) w1) (hk : K (a.put o.dst v) w1) : o.wpIn (FF r) n x.P a w K Q := by
  refine ⟨fun _ _ => trivial, ?_⟩
  rw [sem_at (no_defer hr (fun _ h => by cases h)), hr]; exact hk
theorem upon_skip {r : Option Nat} {n : Nat} {o : Oper} {K : Act → World → Prop} {Q : Exit → Act → World → Prop} {w1 : World}
    (hr : (execOp a.eval o).run x.P w = .ok .skip w1) (hk : K (a.put o.dst undef) w1) : o.wpIn (FF r) n x.P a w K Q := by
  refine ⟨fun _ _ => trivial, ?_⟩
  rw [sem_at (no_defer hr (fun _ h => by cases h)), hr]; exact hk
theorem upon_enter {r : Option Nat} {n : Nat} {o : Oper} {K : Act → World → Prop} {Q : Exit → Act → World → Prop} {g : Nat} {args : Array Value} {v : Value} {S1 : AS}
    (hr : (execOp a.eval o).run x.P w = .ok (.enter g args) w) (hc : CallsIn (FF none) (n - 1) x.P g args w (RetOK x e S w v S1))
    (hk : ∀ v' w1 e1, Stp x e S w e1 S1 w1 → VR e1 v v' → K (a.put o.dst v') w1) : o.wpIn (FF r) n x.P a w K Q := by
  refine ⟨fun _ _ => trivial, ?_⟩
  rw [sem_at (no_defer hr (fun _ h => by cases h)), hr, Oper.uponIn_enter]
  refine ⟨fun h => (by cases h), ?_⟩
  have hc' : CallsIn (FF r) (n - 1) x.P g args w (RetOK x e S w v S1) := hc
  refine hc'.mono fun en w1 he => ?_
  cases en with
  | returned v' => obtain ⟨e1, h1, h2⟩ := he; exact hk v' w1 e1 h1 h2
  | panicked _ => exact he.elim
  | outgrown => exact he.elim
theorem upon_round {r : Option Nat} {n : Nat} {o : Oper} {K : Act → World → Prop} {Q : Exit → Act → World → Prop} {l : Nat} {g : Nat} {tmps : Array Value} {assign body : Code} {v : Value} {S1 : AS}
    (hr : (execOp a.eval o).run x.P w = .ok (.round l g tmps assign body) w) (hc : RoundIn (FF none) (n - 1) x.P l g tmps assign body w (RetOK x e S w v S1))
    (hk : ∀ v' w1 e1, Stp x e S w e1 S1 w1 → VR e1 v v' → K (a.put o.dst v') w1) : o.wpIn (FF r) n x.P a w K Q := by
  refine ⟨fun _ _ => trivial, ?_⟩
  rw [sem_at (no_defer hr (fun _ h => by cases h)), hr, Oper.uponIn_round]
  refine ⟨fun h => (by cases h), ?_⟩
  have hc' : RoundIn (FF r) (n - 1) x.P l g tmps assign body w (RetOK x e S w v S1) := hc
  refine hc'.mono fun en w1 he => ?_
  cases en with
  | returned v' => obtain ⟨e1, h1, h2⟩ := he; exact hk v' w1 e1 h1 h2
  | panicked _ => exact he.elim
  | outgrown => exact he.elim
theorem exec_call {o : Oper} {c : Call} {y : Operand} (ho : o.op = .call c) (hc : c.callee = .value y) {fn : Fn} {first captured : Array Value} (hy : a.eval y = .func fn first captured) :
    execOp a.eval o = invoke (.fn fn captured) (first ++ c.args.map a.eval) := by
  unfold execOp
  rw [ho]
  simp only [resolve, hc, hy, Deferred.ofValue]
  rfl
theorem putW_inv {s s1 : St} {dst : Option Nat} {g : Option (Value × AS)} (h : s.putW N dst g = some s1) : ∃ v S1, g = some (v, S1) ∧ s.put N dst v S1 = some s1 := by
  unfold St.putW at h
  split at h
  · rename_i v S1; exact ⟨v, S1, rfl, h⟩
  · cases h
theorem putO_inv {s s1 : St} {dst : Option Nat} {g : Option Value} (h : s.putO N dst g = some s1) : ∃ v, g = some v ∧ s.put N dst v s.S = some s1 := by
  unfold St.putO at h
  split at h
  · rename_i v; exact ⟨v, rfl, h⟩
  · cases h
theorem doOp_ok (hx : CxOK x) {call : CallF} (hcall : CallOK x call) {r : Option Nat} {n : Nat} {s s1 : St} {o : Oper} (hrel : Rel x e s.S w) (hs : SR x e N s a)
    (hdo : doOp x call r.isSome N s o = some s1) {K : Act → World → Prop} {Q : Exit → Act → World → Prop} (hK : ∀ a1 w1, Aft x e s.S w N s1 a1 w1 → K a1 w1) : o.wpIn (FF r) n x.P a w K Q := by
  have hres := sem_ok hrel hs.fr o
  unfold doOp at hdo
  generalize sem x s.f o.op = res at hdo hres
  cases hres with
  | pure rr hh =>
    obtain ⟨v, hv, hp⟩ := putO_inv hdo
    obtain ⟨v', h1, h2⟩ := hh v hv
    obtain ⟨h3, h4⟩ := hs.put h2 hp
    exact upon_value h1 (hK _ _ ⟨e, by rw [h4]; exact .refl hrel, h3⟩)
  | read g hh =>
    obtain ⟨v, hv, hp⟩ := putO_inv hdo
    obtain ⟨v', h1, h2⟩ := hh v hv
    obtain ⟨h3, h4⟩ := hs.put h2 hp
    exact upon_value h1 (hK _ _ ⟨e, by rw [h4]; exact .refl hrel, h3⟩)
  | write g hh =>
    obtain ⟨v, S1, hv, hp⟩ := putW_inv hdo
    obtain ⟨v', e1, w1, h1, h2, h3⟩ := hh v S1 hv
    obtain ⟨h4, h5⟩ := (hs.mono h2.le).put h3 hp
    rcases h1 with h1 | ⟨h1, rfl⟩
    · exact upon_value h1 (hK _ _ ⟨e1, by rw [h5]; exact h2, h4⟩)
    · exact upon_skip h1 (hK _ _ ⟨e1, by rw [h5]; exact h2, h4⟩)
  | call c y g args ho hc hg ha =>
    obtain ⟨v, S1, hv, hp⟩ := putW_inv hdo
    have fin : ∀ v' w1 e1, Stp x e s.S w e1 S1 w1 → VR e1 v v' → K (a.put o.dst v') w1 := fun v' w1 e1 h2 h3 => by
      obtain ⟨h4, h5⟩ := (hs.mono h2.le).put h3 hp
      exact hK _ _ ⟨e1, by rw [h5]; exact h2, h4⟩
    unfold callV at hv
    split at hv
    · rename_i fn first captured
      split at hv
      · rename_i g
        obtain ⟨d1, d2, hy, h1, h2⟩ := VR.func_inv hg
        have hex := exec_call ho hc hy
        have hargs : All2 (VR e) (first.toList ++ (args ++ captured.toList)) (d1.toList ++ (c.args.toList.map a.eval ++ d2.toList)) := All2.append h1 (All2.append ha h2)
        have harr : (d1 ++ c.args.map a.eval) ++ d2 = (d1.toList ++ (c.args.toList.map a.eval ++ d2.toList)).toArray := by apply Array.ext'; simp
        have hex' : execOp a.eval o = callFunc g (d1.toList ++ (c.args.toList.map a.eval ++ d2.toList)).toArray := by
          rw [hex, ← harr]; rfl
        split at hv
        · rename_i fn hf
          split at hv
          · rename_i body hb
            have hn : (fn.name == "runtime.NumGoroutine") = false := by simpa using hx.name g fn hf
            refine upon_enter (g := g) (args := (d1.toList ++ (c.args.toList.map a.eval ++ d2.toList)).toArray) ?_ (hcall.func g _ s.S v S1 hv e w _ (n - 1) hrel hargs) fin
            rw [hex']
            unfold callFunc
            simp only [Sem.run_bind, run_program, Result.andThen_ok, hf, hn, Bool.false_eq_true, if_false, hb, Option.isNone_some, Sem.run_pure]
          · rename_i hb
            obtain ⟨v', e1, w1, h3, h4, h5⟩ := externV_ok hx hrel hf hb hargs hv
            exact upon_value (by rw [hex']; exact h3) (fin v' w1 e1 h4 h5)
        · cases hv
      · rename_i l
        split at hv
        · rename_i hfi
          split at hv
          · rename_i hca
            have hfi' : first = #[] := Array.toList_inj.1 (by simpa using hfi)
            have hca' : captured = #[] := Array.toList_inj.1 (by simpa using hca)
            subst hfi'; subst hca'
            obtain ⟨b, sh, hb, hy⟩ := VR.yield_inv hg
            obtain ⟨fn, tmps, assign, body, h1, h2⟩ := hcall.yield l args s.S v S1 hv e w _ (n - 1) b sh hrel ha hb
            refine upon_round ?_ h2 fin
            rw [exec_call ho hc hy]
            have : (#[] ++ c.args.map a.eval : Array Value) = (c.args.toList.map a.eval).toArray := by apply Array.ext'; simp
            rw [this]
            exact h1
          · cases hv
        · cases hv
      · cases hv
    · cases hv
  | defer c y g ho hc hg hca =>
    change (match r.isSome with
      | true => none
      | false => match quietV x g with
        | true => St.put N ⟨s.f, .quiet :: s.ds, s.S⟩ o.dst undef s.S
        | false => match deferD g with
          | some d => St.put N ⟨s.f, d :: s.ds, s.S⟩ o.dst undef s.S
          | none => none) = some s1 at hdo
    split at hdo
    · cases hdo
    · rename_i hrn
      split at hdo
      · rename_i hq
        cases r with
        | some l => cases hrn
        | none =>
        unfold quietV at hq
        split at hq
        · rename_i g fa fb
          split at hq
          case h_2 => cases hq
          rename_i hle
          obtain ⟨d1, d2, hy, hl1, hl2⟩ := VR.func_inv hg
          have hle := ble_iff.1 hle
          have hle : fa.toList.length + fb.toList.length ≤ 4 := hle
          have hn1 := hl1.length
          have hn2 := hl2.length
          refine ⟨fun _ _ => trivial, ?_⟩
          have hex : (o.semAt (FF none).round a.eval).run x.P w = .ok (.defer { target := .fn (.func g) d2, args := d1 ++ c.args.map a.eval }) w := by
            rw [show (FF none).round = none from rfl, Oper.semAt_none]
            unfold execOp; rw [ho]
            simp only [resolve, hc, hy, Deferred.ofValue]; rfl
          rw [hex, Oper.uponIn_defer]
          have hs' : SR x e N ⟨s.f, .quiet :: s.ds, s.S⟩ { a with defers := { target := .fn (.func g) d2, args := d1 ++ c.args.map a.eval } :: a.defers } :=
            ⟨hs.fr, ⟨g, d2, rfl, hq, by rw [hca]; simp at hle hn1 hn2 ⊢; omega⟩, hs.ds⟩
          obtain ⟨h1, h2⟩ := hs'.put .undef hdo
          exact hK _ _ ⟨e, by rw [h2]; exact .refl hrel, h1⟩
        · cases hq
      · cases r with
        | some l => cases hrn
        | none =>
        split at hdo
        · rename_i d hd
          unfold deferD at hd
          split at hd
          case h_2 => cases hd
          rename_i g fa fb hqv
          cases hd
          obtain ⟨d1, d2, hy, hl1, hl2⟩ := VR.func_inv hg
          refine ⟨fun _ _ => trivial, ?_⟩
          have hex : (o.semAt (FF none).round a.eval).run x.P w = .ok (.defer { target := .fn (.func g) d2, args := d1 ++ c.args.map a.eval }) w := by
            rw [show (FF none).round = none from rfl, Oper.semAt_none]
            unfold execOp; rw [ho]
            simp only [resolve, hc, hy, Deferred.ofValue]; rfl
          rw [hex, Oper.uponIn_defer]
          have hs' : SR x e N ⟨s.f, .fn g (fa.toList ++ fb.toList) :: s.ds, s.S⟩ { a with defers := { target := .fn (.func g) d2, args := d1 ++ c.args.map a.eval } :: a.defers } :=
            ⟨hs.fr, ⟨d2, rfl, by rw [hca]; simpa using All2.append hl1 hl2⟩, hs.ds⟩
          obtain ⟨h1, h2⟩ := hs'.put .undef hdo
          exact hK _ _ ⟨e, by rw [h2]; exact .refl hrel, h1⟩
        · cases hdo
  | no => cases hdo
end Go.X
