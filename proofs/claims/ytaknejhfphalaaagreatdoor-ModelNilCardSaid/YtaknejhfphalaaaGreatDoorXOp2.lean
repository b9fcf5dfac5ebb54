import Derived.Test.YtaknejhfphalaaaGreatDoorXOp1
/-
  Part five: the operations that look at no block, one by one.
-/
namespace Go.X
open Go
variable {x : Cx} {e : Env} {S : AS} {w : World}

/-- what the executor says is what the model's text gives, the world unturned -/
def Says (x : Cx) (e : Env) (w : World) (r : Option Value) (s : Sem Value) : Prop := ∀ v, r = some v → ∃ v', s.run x.P w = .ok v' w ∧ VR e v v'

theorem pick_ok {c a b c' a' b' : Value} (hc : VR e c c') (ha : VR e a a') (hb : VR e b b') :
    Says x e w (pickV c a b) (do pure (if ← asBool c' then a' else b')) := by
  intro v h
  unfold pickV at h
  split at h
  · rename_i t
    rw [hc.bool_inv]
    split at h <;> cases h
    · exact ⟨a', by simp [asBool], ha⟩
    · exact ⟨b', by simp [asBool], hb⟩
  · cases h

theorem eqI_eq (n m : Int) : eqI n m = (n == m) := by
  cases n with
  | ofNat a =>
    cases m with
    | ofNat b =>
      show Nat.beq a b = _
      rw [Bool.eq_iff_iff, beq_iff, beq_iff_eq]
      exact ⟨fun h => by rw [h], fun h => Int.ofNat.inj h⟩
    | negSucc b => rfl
  | negSucc a =>
    cases m with
    | ofNat b => rfl
    | negSucc b =>
      show Nat.beq a b = _
      rw [Bool.eq_iff_iff, beq_iff, beq_iff_eq]
      exact ⟨fun h => by rw [h], fun h => Int.negSucc.inj h⟩
theorem ltI_eq (n m : Int) : ltI n m = decide (n < m) := by
  cases n with
  | ofNat a =>
    cases m with
    | ofNat b =>
      show Nat.blt a b = _
      rw [Bool.eq_iff_iff, blt_iff, decide_eq_true_iff]
      exact Int.ofNat_lt.symm
    | negSucc b =>
      show false = _
      symm; exact decide_eq_false (by have := Int.negSucc_lt_zero b; have : (0 : Int) ≤ Int.ofNat a := Int.natCast_nonneg a; omega)
  | negSucc a =>
    cases m with
    | ofNat b =>
      show true = _
      symm; exact decide_eq_true (by have := Int.negSucc_lt_zero a; have : (0 : Int) ≤ Int.ofNat b := Int.natCast_nonneg b; omega)
    | negSucc b =>
      show Nat.blt b a = _
      rw [Bool.eq_iff_iff, blt_iff, decide_eq_true_iff]
      rw [Int.negSucc_eq, Int.negSucc_eq]; omega
theorem wrap_small (k : IntKind) (m : Nat) (h : m < lim k) : k.wrap (Int.ofNat m) = Int.ofNat m := by
  have h0 : (Int.ofNat m) = (m : Int) := rfl
  rw [h0]
  unfold IntKind.wrap
  cases k <;> simp only [lim, IntKind.bits, IntKind.signed] at h ⊢ <;> simp <;> omega
theorem wrapF_eq (k : IntKind) (n : Int) : wrapF k n = k.wrap n := by
  cases n with
  | negSucc m => rfl
  | ofNat m =>
    show (match Nat.blt m (lim k) with | true => Int.ofNat m | false => k.wrap (.ofNat m)) = _
    cases hb : Nat.blt m (lim k) with
    | false => rfl
    | true => exact (wrap_small k m (blt_iff.1 hb)).symm
theorem bytesEq_eq : ∀ (l m : List UInt8), bytesEq l m = (l == m)
  | [], [] => rfl
  | [], _ :: _ => rfl
  | _ :: _, [] => rfl
  | a :: l, b :: m => by
    unfold bytesEq
    cases h : Nat.beq a.toNat b.toNat with
    | true =>
      have : a = b := UInt8.toNat_inj.1 (beq_iff.1 h)
      subst this
      simp only [bytesEq_eq l m]; simp
    | false =>
      have : ¬ a = b := fun hab => by subst hab; rw [beq_iff.2 rfl] at h; cases h
      simp [this]
theorem kn_inj {j k : IntKind} (h : Nat.beq (kn j) (kn k) = true) : j = k := by cases j <;> cases k <;> first | rfl | cases h

theorem runG_ok {s : Sem Value} {v : Value} (h : runG x s = some v) : s.run x.P w = .ok v w ∧ VR e v v := by
  unfold runG at h
  cases hp : pureRun x.P s with
  | none => simp [hp] at h
  | some u =>
    simp only [hp] at h
    cases hg : ground6 u with
    | false => simp [hg] at h
    | true => simp only [hg, Option.some.injEq] at h; subst h; exact ⟨pureRun_run s u w hp, .of6 hg⟩
theorem intV_run {op : BinOp} {t : TypeId} {k : IntKind} {n m : Int} {v : Value} (hs : op ≠ .shl) (hs' : op ≠ .shr) (h : intV x op t k n m = some v) :
    (binOp op t (.int k n) (.int k m)).run x.P w = .ok v w ∧ VR e v v := by
  have hadd : Int.add n m = n + m := rfl
  have hsub : Int.sub n m = n - m := rfl
  have hmul : Int.mul n m = n * m := rfl
  cases op <;> simp only [intV, boolO] at h
  case shl => exact absurd rfl hs
  case shr => exact absurd rfl hs'
  case quo | rem | and | or | xor | andNot => exact runG_ok h
  all_goals
    simp only [Option.some.injEq] at h
    subst h
    refine ⟨?_, .ground _ 0 rfl⟩
    first
      | (simp only [binOp, Op.intArith, wrapF_eq, ne_eq, not_true_eq_false, if_false]; rfl)
      | (simp only [binOp, Op.intCmp, eqI_eq, ltI_eq, ne_eq, not_true_eq_false, if_false]; rfl)
      | (simp only [binOp, Op.intCmp, ltI_eq, Sem.run_pure, ne_eq, not_true_eq_false, if_false]
         congr 2
         rw [Bool.eq_iff_iff]
         simp only [decide_eq_true_eq, Bool.not_eq_true', decide_eq_false_iff_not]
         omega)
theorem binInt_run {op : BinOp} {t : TypeId} {k : IntKind} {n : Int} {b v : Value} (h : binInt x op t k n b = some v) :
    ∃ k' m, b = .int k' m ∧ (binOp op t (.int k n) b).run x.P w = .ok v w ∧ VR e v v := by
  unfold binInt at h
  split at h
  · rename_i k' m
    refine ⟨k', m, rfl, ?_⟩
    split at h
    · exact runG_ok h
    · exact runG_ok h
    · rename_i hs hs'
      split at h
      · rename_i hk
        have := kn_inj hk; subst this
        exact intV_run hs hs' h
      · cases h
  · cases h
theorem binStr_run {op : BinOp} {t : TypeId} {s : ByteArray} {b v : Value} (h : binStr x op s b = some v) :
    ∃ r, b = .string r ∧ (binOp op t (.string s) b).run x.P w = .ok v w ∧ VR e v v := by
  unfold binStr at h
  split at h
  · rename_i r
    refine ⟨r, rfl, ?_⟩
    have hb : (binOp op t (.string s) (.string r)) = Op.stringOp op s r := by cases op <;> rfl
    rw [hb]
    split at h
    · simp only [boolO, Option.some.injEq] at h; subst h
      refine ⟨?_, .ground _ 0 rfl⟩
      simp only [Op.stringOp, bytesEq_eq, ByteArray.toList_eq, Sem.run_pure]
    · simp only [boolO, Option.some.injEq] at h; subst h
      refine ⟨?_, .ground _ 0 rfl⟩
      simp only [Op.stringOp, bytesEq_eq, ByteArray.toList_eq, Sem.run_pure]
    · unfold catB at h
      split at h
      · rename_i hc
        cases h
        have hc := ble_iff.1 hc
        refine ⟨?_, .ground _ 0 rfl⟩
        have : ¬ ((s.size + r.size : Nat) : Int) > IntKind.i64.max := by
          have h1 : s.size = s.data.toList.length := by rw [Array.length_toList]; rfl
          have h2 : r.size = r.data.toList.length := by rw [Array.length_toList]; rfl
          have h3 : IntKind.i64.max = 9223372036854775807 := by decide
          have hc' : s.data.toList.length + r.data.toList.length ≤ 1000000 := hc
          rw [h1, h2, h3]; omega
        simp only [Op.stringOp, this, if_false, Sem.run_pure]
        congr 2
        first | done | exact BA.ext (by simp [ByteArray.data_append])
      · cases h
    · exact runG_ok h
  · cases h
/-! == -/
theorem addrEq_ok {a b : Addr} {r : Bool} (h : addrEq a b = some r) : a.spot = none ∧ b.spot = none ∧ a.block = b.block ∧ r = Nat.beq a.off b.off := by
  unfold addrEq at h
  split at h
  · cases h
  · rename_i h1
    split at h
    · cases h
    · rename_i h2
      split at h
      · rename_i h3; cases h; exact ⟨h1, h2, beq_iff.1 h3, rfl⟩
      · cases h
def plainV (v : Value) : Bool :=
  match v with
  | .int _ _ | .float _ _ | .complex _ _ _ | .string _ | .agg _ => false
  | _ => true
/-- '==' of two values of which one may lie in a block, by the model -/
theorem eqV_run {t : TypeId} {a b a' b' : Value} {cst : Bool} {r : Bool} (ha : VR e a a') (hb : VR e b b') (h : eqV x t a b cst = some r) :
    (Op.equal t a' b').run x.P w = .ok r w ∧ plainV a' = true ∧ (a' = .nilIface → b' = .nilIface → cst = true) := by
  unfold eqV at h
  obtain ⟨d, hd⟩ : ∃ d, Op.maxDepth = d + 1 := ⟨9999, rfl⟩
  unfold Op.equal
  rw [hd]
  split at h
  · -- bool
    rename_i hu
    split at h
    · rename_i p
      split at h
      · rename_i q
        cases h
        rw [ha.bool_inv, hb.bool_inv]
        refine ⟨?_, rfl, fun h => by cases h⟩
        simp only [Op.equalIn, Sem.run_bind, run_underlying hu, Result.andThen_ok, Sem.run_pure]
      · cases h
    · cases h
  · -- pointers
    rename_i el hu
    split at h
    · rename_i p
      split at h
      · rename_i q
        unfold eqPtr at h
        split at h
        · cases h
          rw [ha.ptr0_inv]
          cases q with
          | none =>
            rw [hb.ptr0_inv]
            refine ⟨?_, rfl, fun h => by cases h⟩
            simp only [Op.equalIn, Sem.run_bind, run_underlying hu, Result.andThen_ok, Sem.run_pure]
          | some q =>
            obtain ⟨c, sh, _, _, rfl⟩ := hb.ptr_inv
            refine ⟨?_, rfl, fun h => by cases h⟩
            simp only [Op.equalIn, Sem.run_bind, run_underlying hu, Result.andThen_ok, Sem.run_pure]; rfl
        · rename_i p
          obtain ⟨c, sh, hc, _, rfl⟩ := ha.ptr_inv
          split at h
          · cases h
            rw [hb.ptr0_inv]
            refine ⟨?_, rfl, fun h => by cases h⟩
            simp only [Op.equalIn, Sem.run_bind, run_underlying hu, Result.andThen_ok, Sem.run_pure]
          · rename_i q
            obtain ⟨c', sh', hc', _, rfl⟩ := hb.ptr_inv
            split at h
            · rename_i n hn
              obtain ⟨_, _, hbl, rfl⟩ := addrEq_ok h
              rw [hbl] at hc; rw [hc] at hc'; cases hc'
              refine ⟨?_, rfl, fun h => by cases h⟩
              simp only [Op.equalIn, Sem.run_bind, run_underlying hu, Result.andThen_ok, sizeT_run hn, ne_eq, Nat.add_one_ne_zero, not_false_eq_true, if_true, sameAddr, beq_self_eq_true, Sem.run_pure]
              congr 1
              rw [Bool.eq_iff_iff, beq_iff, beq_iff_eq]
              simp
            · cases h
      · cases h
    · cases h
  · -- slices
    rename_i el hu
    split at h
    · rename_i p pn pc
      split at h
      · rename_i q qn qc
        split at h
        · cases h
          rw [ha.slice0_inv]
          cases q with
          | none =>
            rw [hb.slice0_inv]
            refine ⟨?_, rfl, fun h => by cases h⟩
            simp only [Op.equalIn, Sem.run_bind, run_underlying hu, Result.andThen_ok, Sem.run_pure]
          | some q =>
            obtain ⟨c, sh, o, cc, sz, _, _, rfl, _⟩ := hb.slice_inv
            refine ⟨?_, rfl, fun h => by cases h⟩
            simp only [Op.equalIn, Sem.run_bind, run_underlying hu, Result.andThen_ok, Sem.run_pure]; rfl
        · obtain ⟨c, sh, o, cc, sz, _, _, rfl, _⟩ := ha.slice_inv
          split at h
          · cases h
            rw [hb.slice0_inv]
            refine ⟨?_, rfl, fun h => by cases h⟩
            simp only [Op.equalIn, Sem.run_bind, run_underlying hu, Result.andThen_ok, Sem.run_pure]
          · cases h
      · cases h
    · cases h
  · -- maps
    rename_i mk me hu
    split at h
    · rename_i p
      split at h
      · rename_i q
        split at h
        · cases h
          rw [ha.map0_inv]
          cases q with
          | none =>
            rw [hb.map0_inv]
            refine ⟨?_, rfl, fun h => by cases h⟩
            simp only [Op.equalIn, Sem.run_bind, run_underlying hu, Result.andThen_ok, Sem.run_pure]
          | some q =>
            obtain ⟨c, sh, _, rfl⟩ := hb.map_inv
            refine ⟨?_, rfl, fun h => by cases h⟩
            simp only [Op.equalIn, Sem.run_bind, run_underlying hu, Result.andThen_ok, Sem.run_pure]; rfl
        · obtain ⟨c, sh, _, rfl⟩ := ha.map_inv
          split at h
          · cases h
            rw [hb.map0_inv]
            refine ⟨?_, rfl, fun h => by cases h⟩
            simp only [Op.equalIn, Sem.run_bind, run_underlying hu, Result.andThen_ok, Sem.run_pure]
          · cases h
      · cases h
    · cases h
  · -- functions
    rename_i f1 f2 f3 hu
    split at h
    · rw [ha.nilFunc_inv]
      split at h
      · cases h
        rw [hb.nilFunc_inv]
        refine ⟨?_, rfl, fun h => by cases h⟩
        simp only [Op.equalIn, Sem.run_bind, run_underlying hu, Result.andThen_ok, Sem.run_pure]
      · cases h
        obtain ⟨d1, d2, rfl, _⟩ := hb.func_inv
        refine ⟨?_, rfl, fun h => by cases h⟩
        simp only [Op.equalIn, Sem.run_bind, run_underlying hu, Result.andThen_ok, Sem.run_pure]
      · cases h
    · obtain ⟨d1, d2, rfl, _⟩ := ha.func_inv
      split at h
      · cases h
        rw [hb.nilFunc_inv]
        refine ⟨?_, rfl, fun h => by cases h⟩
        simp only [Op.equalIn, Sem.run_bind, run_underlying hu, Result.andThen_ok, Sem.run_pure]
      · cases h
    · cases h
  · -- interfaces
    rename_i ms hu
    split at h
    · rw [ha.nilIface_inv]
      split at h
      · split at h
        · cases h
          rw [hb.nilIface_inv]
          refine ⟨?_, rfl, fun _ _ => rfl⟩
          simp only [Op.equalIn, Sem.run_bind, run_underlying hu, Result.andThen_ok, Sem.run_pure]
        · cases h
      · cases h
        obtain ⟨t', v', rfl⟩ : ∃ t' v', b' = .iface t' v' := by cases hb <;> exact ⟨_, _, rfl⟩
        refine ⟨?_, rfl, fun _ h => by cases h⟩
        simp only [Op.equalIn, Sem.run_bind, run_underlying hu, Result.andThen_ok, Sem.run_pure]
      · cases h
    · obtain ⟨t', v', rfl⟩ : ∃ t' v', a' = .iface t' v' := by cases ha <;> exact ⟨_, _, rfl⟩
      split at h
      · cases h
        rw [hb.nilIface_inv]
        refine ⟨?_, rfl, fun h => by cases h⟩
        simp only [Op.equalIn, Sem.run_bind, run_underlying hu, Result.andThen_ok, Sem.run_pure]
      · cases h
    · cases h
  · cases h

theorem eqGuard_run {op : BinOp} {t : TypeId} {xo yo : Operand} {a b : Value} (hp : plainV a = true) (hc : a = .nilIface → b = .nilIface → (isC xo || isC yo) = true) :
    (eqGuard op t xo yo a b).run x.P w = .ok () w := by
  unfold eqGuard
  cases op <;> simp
  all_goals
    cases a <;> first | (simp [plainV] at hp; done) | (cases b <;> first | rfl | skip)
    have := hc rfl rfl
    cases xo <;> cases yo <;> first | rfl | (simp [isC] at this; done)
theorem eqGuard_int {op : BinOp} {t : TypeId} {xo yo : Operand} {k k' : IntKind} {n m : Int} : (eqGuard op t xo yo (.int k n) (.int k' m)).run x.P w = .ok () w := by
  unfold eqGuard; cases op <;> rfl
theorem eqGuard_string {op : BinOp} {t : TypeId} {xo yo : Operand} {s r : ByteArray} : (eqGuard op t xo yo (.string s) (.string r)).run x.P w = .ok () w := by
  unfold eqGuard; cases op <;> rfl
theorem binOp_eql {t : TypeId} {a b : Value} (hp : plainV a = true) : binOp .eql t a b = (do pure (.bool (← Op.equal t a b))) := by
  cases a <;> first | (simp [plainV] at hp; done) | (cases b <;> rfl)
theorem binOp_neq {t : TypeId} {a b : Value} (hp : plainV a = true) : binOp .neq t a b = (do pure (.bool (!(← Op.equal t a b)))) := by
  cases a <;> first | (simp [plainV] at hp; done) | (cases b <;> rfl)
theorem binV_ok {op : BinOp} {t : TypeId} {xo yo : Operand} {a b a' b' : Value} (ha : VR e a a') (hb : VR e b b') :
    Says x e w (binV x op t xo yo a b) (do eqGuard op t xo yo a' b'; binOp op t a' b') := by
  intro v h
  unfold binV at h
  split at h
  · obtain ⟨k', m, rfl, h1, h2⟩ := binInt_run (w := w) (e := e) h
    rw [ha.int_inv, hb.int_inv]
    exact ⟨v, by rw [Sem.run_bind, eqGuard_int]; exact h1, h2⟩
  · obtain ⟨r, rfl, h1, h2⟩ := binStr_run (w := w) (e := e) (t := t) h
    rw [ha.string_inv, hb.string_inv]
    exact ⟨v, by rw [Sem.run_bind, eqGuard_string]; exact h1, h2⟩
  · unfold binRest at h
    split at h
    · split at h
      · rename_i r hr
        obtain ⟨h1, h2, h3⟩ := eqV_run (w := w) ha hb hr
        simp only [boolO, Option.some.injEq] at h; subst h
        exact ⟨_, by rw [Sem.run_bind, eqGuard_run h2 h3, binOp_eql h2]; simp [h1], .bool _⟩
      · split at h
        · rename_i hg
          simp only [Bool.and_eq_true] at hg
          rw [ha.eq6 hg.1, hb.eq6 hg.2]
          exact ⟨v, runG_ok h⟩
        · cases h
    · split at h
      · rename_i r hr
        obtain ⟨h1, h2, h3⟩ := eqV_run (w := w) ha hb hr
        simp only [boolO, Option.some.injEq] at h; subst h
        exact ⟨_, by rw [Sem.run_bind, eqGuard_run h2 h3, binOp_neq h2]; simp [h1], .bool _⟩
      · split at h
        · rename_i hg
          simp only [Bool.and_eq_true] at hg
          rw [ha.eq6 hg.1, hb.eq6 hg.2]
          exact ⟨v, runG_ok h⟩
        · cases h
    · cases h
theorem unV_ok {op : UnOp} {a a' : Value} (ha : VR e a a') : Says x e w (unV x op a) (Op.unary op a') := by
  intro v h
  unfold unV at h
  split at h
  · split at h
    · simp only [boolO, Option.some.injEq] at h; subst h
      rw [ha.bool_inv]; exact ⟨_, rfl, .bool _⟩
    · cases h
  · split at h
    · rename_i hg
      rw [ha.eq6 hg]
      exact ⟨v, runG_ok h⟩
    · cases h
theorem okV_ok {ok b : Bool} {v v' : Value} (h : VR e v v') : VR e (okV ok v b) (if ok then .tuple #[v', .bool b] else v') := by
  cases ok
  · exact h
  · show VR e (.tuple #[v, .bool b]) _
    have := VR.mkTuple (e := e) (c := [v, .bool b]) (c' := [v', .bool b]) ⟨h, .bool b, trivial⟩
    simpa using this
theorem assertV_ok {a a' : Value} {t u : TypeId} {ok : Bool} (ha : VR e a a') : Says x e w (assertV x a t u ok) (Instr.typeAssert a' t u ok) := by
  intro v h
  unfold assertV at h
  split at h
  · rename_i hg
    rw [ha.eq6 hg]
    exact ⟨v, runG_ok h⟩
  · split at h
    · rename_i s y hg
      obtain ⟨u', rfl, hu'⟩ := VR.iface_inv ha
      split at h
      · cases h
      · rename_i d hd hu
        split at h
        · rename_i hb
          have hb := beq_iff.1 hb
          subst hb
          cases h
          refine ⟨_, ?_, okV_ok hu'⟩
          unfold Instr.typeAssert
          rw [Sem.run_bind, run_underlying hu]
          cases d <;> first | (simp only [Result.andThen_ok, if_true]; cases ok <;> rfl) | exact absurd rfl (hd _)
        · cases h
      · cases h
    · cases h
theorem ifaceV_ok {a a' : Value} {t : TypeId} (ha : VR e a a') : Says x e w (ifaceV x t a) (Instr.makeInterface t a') := by
  intro v h
  unfold ifaceV at h
  split at h
  · cases h
  · rename_i d hd hu
    cases h
    refine ⟨_, ?_, .iface t a a' ha⟩
    unfold Instr.makeInterface
    rw [Sem.run_bind, run_underlying hu]
    cases d <;> first | rfl | exact absurd rfl (hd _)
  · cases h
theorem funcV_ok {fn : Fn} {a b a' b' : List Value} (ha : All2 (VR e) a a') (hb : All2 (VR e) b b') :
    Says x e w (funcV fn a b) (Instr.makeFunc fn a'.toArray b'.toArray) := by
  intro v h
  unfold funcV at h
  split at h
  · cases h; exact ⟨_, rfl, .mkFunc ha hb⟩
  · cases h
theorem extractV_ok {a a' : Value} {i : Nat} (ha : VR e a a') : Says x e w (extractV a i) (Instr.extract a' i) := by
  intro v h
  unfold extractV at h
  split at h
  · rename_i vs
    obtain ⟨c', rfl, h2⟩ := ha.tuple_inv
    rw [nth_eq] at h
    obtain ⟨v', h3, h4⟩ := h2.get h
    have h3 : c'[i]? = some v' := by simpa using h3
    exact ⟨v', by simp [Instr.extract, h3], h4⟩
  · cases h
/-- a part of a value -/
theorem partV_ok {cs cs' : List Value} {t : TypeId} {off : Nat} (h2 : All2 (VR e) cs cs') : Says x e w (partV x t cs off) (part t cs'.toArray off) := by
  intro v h
  unfold partV at h
  split at h
  · rename_i ha
    split at h
    · rename_i n hn
      split at h
      · rename_i hle
        cases h
        refine ⟨.agg (((cs'.drop off).take n).toArray), ?_, .mkAgg ((h2.drop off).take n)⟩
        unfold part
        simp only [Sem.run_bind, isAggT_run ha, Result.andThen_ok, if_true, sizeT_run hn, Sem.run_pure]
        congr 2
        simp
      · cases h
    · cases h
  · rename_i ha
    rw [nth_eq] at h
    obtain ⟨v', h3, h4⟩ := h2.get h
    refine ⟨v', ?_, h4⟩
    unfold part
    simp only [Sem.run_bind, isAggT_run ha, Result.andThen_ok, Bool.false_eq_true, if_false]
    simp [h3]
  · cases h
theorem fieldV_ok {a a' : Value} {t : TypeId} {i : Nat} (ha : VR e a a') : Says x e w (fieldV x t a i) (Instr.field t a' i) := by
  intro v h
  unfold fieldV at h
  split at h
  · rename_i cs
    split at h
    · rename_i fields hu
      split at h
      · rename_i f hf
        rw [nth_eq] at hf
        obtain ⟨c', rfl, h2⟩ := ha.agg_inv
        obtain ⟨v', h3, h4⟩ := partV_ok (w := w) h2 v h
        refine ⟨v', ?_, h4⟩
        unfold Instr.field
        have hf : fields[i]? = some f := by simpa using hf
        simp only [Sem.run_bind, run_underlying hu, Result.andThen_ok, hf, asAgg, Sem.run_pure]
        simpa using h3
      · cases h
    · cases h
  · cases h
end Go.X
