import Derived.Test.YtaknejhfphalaaaGreatDoorXOp10
/-
  Part fourteen: one operation, whichever.
-/
namespace Go.X
open Go
variable {x : Cx} {e : Env} {S : AS} {w : World}

/-- what an operation's word is worth -/
inductive ResOK (x : Cx) (e : Env) (S : AS) (w : World) (ρ : Operand → Value) (o : Oper) : Res → Prop
  | pure (r : Option Value) (h : ∀ v, r = some v → ∃ v', (execOp ρ o).run x.P w = .ok (.value v') w ∧ VR e v v') : ResOK x e S w ρ o (.pure r)
  | read (g : AS → Option Value) (h : ∀ v, g S = some v → ∃ v', (execOp ρ o).run x.P w = .ok (.value v') w ∧ VR e v v') : ResOK x e S w ρ o (.read g)
  | write (g : AS → Option (Value × AS)) (h : ∀ v S1, g S = some (v, S1) → ∃ v' e1 w1, ((execOp ρ o).run x.P w = .ok (.value v') w1 ∨ ((execOp ρ o).run x.P w = .ok .skip w1 ∧ v' = undef)) ∧ Stp x e S w e1 S1 w1 ∧ VR e1 v v') :
      ResOK x e S w ρ o (.write g)
  | call (c : Call) (y : Operand) (g : Value) (args : List Value) (ho : o.op = .call c) (hc : c.callee = .value y) (hg : VR e g (ρ y)) (ha : All2 (VR e) args (c.args.toList.map ρ)) : ResOK x e S w ρ o (.call g args)
  | defer (c : Call) (y : Operand) (g : Value) (ho : o.op = .defer c) (hc : c.callee = .value y) (hg : VR e g (ρ y)) (ha : c.args = #[]) : ResOK x e S w ρ o (.defer g)
  | no : ResOK x e S w ρ o .no

abbrev valueOf (s : Sem Value) : Sem Next := do pure (Next.value (← s))
abbrev unitOf (s : Sem Unit) : Sem Next := do s; pure Next.skip
theorem ResOK.says {ρ : Operand → Value} {o : Oper} {r : Option Value} {s : Sem Value} (ho : execOp ρ o = valueOf s) (h : Says x e w r s) : ResOK x e S w ρ o (.pure r) :=
  .pure r fun v hv => by
    obtain ⟨v', h1, h2⟩ := h v hv
    exact ⟨v', by rw [ho]; simp [valueOf, h1], h2⟩
theorem ResOK.reads {ρ : Operand → Value} {o : Oper} {g : AS → Option Value} {s : Sem Value} (ho : execOp ρ o = valueOf s) (h : Says x e w (g S) s) : ResOK x e S w ρ o (.read g) :=
  .read g fun v hv => by
    obtain ⟨v', h1, h2⟩ := h v hv
    exact ⟨v', by rw [ho]; simp [valueOf, h1], h2⟩
theorem ResOK.does {ρ : Operand → Value} {o : Oper} {g : AS → Option (Value × AS)} {s : Sem Value} (ho : execOp ρ o = valueOf s) (h : Does x e S w (g S) s) : ResOK x e S w ρ o (.write g) :=
  .write g fun v S1 hv => by
    obtain ⟨v', e1, w1, h1, h2, h3⟩ := h v S1 hv
    exact ⟨v', e1, w1, .inl (by rw [ho]; simp [valueOf, h1]), h2, h3⟩
theorem ResOK.doesU {ρ : Operand → Value} {o : Oper} {g : AS → Option (Value × AS)} {s : Sem Unit} (ho : execOp ρ o = unitOf s) (h : DoesU x e S w (g S) s) : ResOK x e S w ρ o (.write g) :=
  .write g fun v S1 hv => by
    obtain ⟨rfl, e1, w1, h1, h2⟩ := h v S1 hv
    exact ⟨undef, e1, w1, .inr ⟨by rw [ho]; simp [unitOf, h1], rfl⟩, h2, .undef⟩
variable {N : Nat} {f : Fr} {a : Act}
theorem evParts_ok (h : Rel x e S w) (hf : FR e N f a.tmps) : ∀ (l : List (Nat × Operand)), PartsR e (evParts x f l) (l.map fun p => (p.1, a.eval p.2))
  | [] => trivial
  | (_, o) :: l => ⟨⟨rfl, ev_ok h hf o⟩, evParts_ok h hf l⟩
theorem evO_ok (h : Rel x e S w) (hf : FR e N f a.tmps) (o : Option Operand) : VRO e (evO x f o) (o.map a.eval) := by
  cases o with
  | none => trivial
  | some o => exact ev_ok h hf o
theorem args_arr (c : Call) (ρ : Operand → Value) : c.args.map ρ = (c.args.toList.map ρ).toArray := by apply Array.ext'; simp
section
variable {src dst : TypeId}
theorem conv_int {ds : TypeDesc} {k k1 : IntKind} {n : Int} (h1 : x.P.underlying src = some ds) (h2 : x.P.underlying dst = some (.int k)) :
    (convert src dst (.int k1 n)).run x.P w = .ok (.int k (k.wrap n)) w := by
  unfold convert
  rw [Sem.run_bind, run_underlying h1, Result.andThen_ok, Sem.run_bind, run_underlying h2, Result.andThen_ok]
  cases ds <;> rfl
theorem conv_bytes {el : TypeId} {s : ByteArray} (h1 : x.P.underlying src = some .string) (h2 : x.P.underlying dst = some (.slice el)) (h3 : x.P.underlying el = some (.int .u8)) :
    (convert src dst (.string s)).run x.P w = (Conv.stringToBytes el s).run x.P w := by
  unfold convert
  rw [Sem.run_bind, run_underlying h1, Result.andThen_ok, Sem.run_bind, run_underlying h2, Result.andThen_ok]
  show (do match ← underlying el with | .int .u8 => Conv.stringToBytes el s | .int .i32 => Conv.stringToRunes el s | _ => stuck "Convert: string to a slice of what?" : Sem Value).run x.P w = _
  rw [Sem.run_bind, run_underlying h3, Result.andThen_ok]
theorem conv_str {s : ByteArray} (h1 : x.P.underlying src = some .string) (h2 : x.P.underlying dst = some .string) :
    (convert src dst (.string s)).run x.P w = .ok (.string s) w := by
  unfold convert
  rw [Sem.run_bind, run_underlying h1, Result.andThen_ok, Sem.run_bind, run_underlying h2, Result.andThen_ok]
  rfl
theorem conv_text {el : TypeId} {v : Value} (h1 : x.P.underlying src = some (.slice el)) (h2 : x.P.underlying dst = some .string) (h3 : x.P.underlying el = some (.int .u8)) {b : Option Addr} {n c : Nat} (hv : v = .slice b n c) :
    (convert src dst v).run x.P w = (Conv.bytesToString v).run x.P w := by
  subst hv
  unfold convert
  rw [Sem.run_bind, run_underlying h1, Result.andThen_ok, Sem.run_bind, run_underlying h2, Result.andThen_ok]
  show (do match ← underlying el with | .int .u8 => Conv.bytesToString (.slice b n c) | .int .i32 => Conv.runesToString (.slice b n c) | _ => stuck "Convert: a slice of what to string?" : Sem Value).run x.P w = _
  rw [Sem.run_bind, run_underlying h3, Result.andThen_ok]
theorem conv_unsafe1 {t : TypeId} {p : Addr} (h1 : x.P.underlying src = some (.pointer t)) (h2 : x.P.underlying dst = some .unsafePointer) :
    (convert src dst (.pointer (some p))).run x.P w = (Conv.unsafePointer src dst (.pointer (some p))).run x.P w := by
  unfold convert
  rw [Sem.run_bind, run_underlying h1, Result.andThen_ok, Sem.run_bind, run_underlying h2, Result.andThen_ok]
theorem conv_unsafe2 {t : TypeId} {p : Addr} (h1 : x.P.underlying src = some .unsafePointer) (h2 : x.P.underlying dst = some (.pointer t)) :
    (convert src dst (.pointer (some p))).run x.P w = (Conv.unsafePointer src dst (.pointer (some p))).run x.P w := by
  unfold convert
  rw [Sem.run_bind, run_underlying h1, Result.andThen_ok, Sem.run_bind, run_underlying h2, Result.andThen_ok]
end
theorem convR_ok (h : Rel x e S w) {src dst : TypeId} {y : Operand} {v : Value} {o : Oper} (ho : o.op = .convert src dst y) (hv : VR e v (a.eval y)) : ResOK x e S w a.eval o (convR x src dst v) := by
  have hex : execOp a.eval o = valueOf (convert src dst (a.eval y)) := by unfold execOp; rw [ho]
  generalize a.eval y = v' at hv hex
  unfold convR
  split
  · -- an integer
    rename_i k n
    split
    · rename_i k2 hd
      split
      · rename_i d hs
        refine .says hex fun u hu => ?_
        cases hu
        refine ⟨.int k2 (wrapF k2 n), ?_, .int _ _⟩
        rw [hv.int_inv, conv_int hs hd, wrapF_eq]
      · exact .no
    · exact .no
  · -- a string
    rename_i s
    split
    · rename_i el hd
      split
      · rename_i he
        split
        · rename_i hs
          split
          · rename_i hle
            refine .does hex fun u S1 hu => ?_
            obtain ⟨v1, e1, w1, h1, h2, h3⟩ := bytesMade_ok h (ble_iff.1 hle) u S1 hu
            refine ⟨v1, e1, w1, ?_, h2, h3⟩
            rw [hv.string_inv, conv_bytes hs hd he]
            exact h1
          · exact .no
        · exact .no
      · exact .no
    · rename_i hd
      split
      · rename_i hs
        refine .says hex fun u hu => ?_
        cases hu
        refine ⟨v', ?_, hv⟩
        rw [hv.string_inv, conv_str hs hd]
      · exact .no
    · exact .no
  · -- a slice
    rename_i p n k
    split
    · rename_i el hs
      split
      · rename_i hd
        split
        · rename_i he
          refine .reads hex fun u hu => ?_
          obtain ⟨b, sh, off', cc, sz, hsp, hb, rfl, h4, _, _, _, _, hoff⟩ := hv.slice_inv
          rw [conv_text hs hd he rfl]
          rcases Nat.eq_zero_or_pos n with h0 | h0
          · subst h0
            unfold strOf at hu
            split at hu
            · rename_i l hl
              cases hu
              obtain ⟨h1, _⟩ := bytesAt_ok h hb hl
              have hl0 : l = [] := List.eq_nil_of_length_eq_zero h1
              subst hl0
              refine ⟨.string ⟨#[]⟩, ?_, .string _⟩
              rfl
            · cases hu
          · have := hoff h0; subst this
            exact strOf_ok h (cc := cc) hb u hu
        · exact .no
      · exact .no
    · exact .no
  · -- a pointer
    rename_i p
    split
    · rename_i t hs
      split
      · rename_i hd
        refine .reads hex fun u hu => ?_
        obtain ⟨v1, h1, h2⟩ := toUnsafe_ok h hv hs hd u hu
        refine ⟨v1, ?_, h2⟩
        obtain ⟨b, sh, _, _, rfl⟩ := hv.ptr_inv
        rw [conv_unsafe1 hs hd]
        exact h1
      · exact .no
    · rename_i hs
      split
      · rename_i t hd
        split
        · rename_i n hn
          refine .reads hex fun u hu => ?_
          obtain ⟨v1, h1, h2⟩ := fromUnsafe_ok h hv hs hd hn u hu
          refine ⟨v1, ?_, h2⟩
          obtain ⟨b, sh, _, _, rfl⟩ := hv.ptr_inv
          rw [conv_unsafe2 hs hd]
          exact h1
        · exact .no
      · exact .no
    · exact .no
  · exact .no

/-! builtins -/
theorem slice_len {p : Option Addr} {n k : Nat} {v : Value} (hv : VR e (.slice p n k) v) : ∃ q cc, v = .slice q n cc := by
  cases p with
  | none => exact ⟨none, _, hv.slice0_inv⟩
  | some p => obtain ⟨b, sh, o, cc, sz, _, _, rfl, _⟩ := hv.slice_inv; exact ⟨_, _, rfl⟩
theorem exec_builtin {o : Oper} {c : Call} {b : Builtin} (ho : o.op = .call c) (hc : c.callee = .builtin b) (ρ : Operand → Value) :
    execOp ρ o = builtin b c.argTypes o.type (c.args.map fun | .const _ => true | _ => false) (c.args.map ρ) := by
  unfold execOp
  rw [ho]
  simp only [resolve, hc]
  rfl
theorem args_one {c : Call} {ρ : Operand → Value} {l : List Value} (h : c.args.toList.map ρ = l) : c.args.map ρ = l.toArray := by rw [args_arr, h]
theorem builtinR_ok (h : Rel x e S w) {o : Oper} {c : Call} {b : Builtin} {args : List Value} (ho : o.op = .call c) (hc : c.callee = .builtin b) (ha : All2 (VR e) args (c.args.toList.map a.eval)) :
    ResOK x e S w a.eval o (builtinR x b c.argTypes.toList args) := by
  have hex := exec_builtin ho hc a.eval
  have hts : c.argTypes = c.argTypes.toList.toArray := by simp
  generalize hl : c.args.toList.map a.eval = args' at ha
  rw [args_one hl] at hex
  generalize hts' : c.argTypes.toList = ts at hts
  rw [hts] at hex
  generalize (c.args.map fun | .const _ => true | _ => false) = cs at hex
  unfold builtinR
  split
  · -- len
    split
    · rename_i t ts
      split
      · rename_i v args
        match args', ha with
        | v' :: args', ha =>
        have hv := ha.1
        have hex' : execOp a.eval o = valueOf (Builtin.len_ (t :: ts).toArray o.type (v' :: args').toArray) := hex
        unfold lenR
        split
        · split
          · rename_i s hu
            refine .says hex' fun u hu' => ?_
            cases hu'
            rw [hv.string_inv]
            refine ⟨_, ?_, .int _ _⟩
            unfold Builtin.len_
            simp only [List.getElem?_toArray, List.getElem?_cons_zero, Sem.run_bind, run_underlying hu, Result.andThen_ok, Sem.run_pure]
            rw [Array.length_toList]; rfl
          · exact .no
        · split
          · rename_i hu
            refine .says hex' fun u hu' => ?_
            cases hu'
            obtain ⟨q, cc, rfl⟩ := slice_len hv
            refine ⟨_, ?_, .int _ _⟩
            unfold Builtin.len_
            simp only [List.getElem?_toArray, List.getElem?_cons_zero, Sem.run_bind, run_underlying hu, Result.andThen_ok, Sem.run_pure]
            rfl
          · exact .no
        · split
          · rename_i k el hu
            refine .says hex' fun u hu' => ?_
            cases hu'
            rw [hv.map0_inv]
            refine ⟨_, ?_, .int _ _⟩
            unfold Builtin.len_
            simp only [List.getElem?_toArray, List.getElem?_cons_zero, Sem.run_bind, run_underlying hu, Result.andThen_ok, Sem.run_pure]
            rfl
          · exact .no
        · split
          · rename_i r k el hu
            obtain ⟨b, sh, hb, rfl⟩ := hv.map_inv
            exact .reads hex' (mapLen_ok h hb hu)
          · exact .no
        · exact .no
      · exact .no
    · exact .no
  · -- cap
    split
    · rename_i t ts
      split
      · rename_i v args
        match args', ha with
        | v' :: args', ha =>
        have hv := ha.1
        have hex' : execOp a.eval o = valueOf (Builtin.cap_ (t :: ts).toArray o.type (v' :: args').toArray) := hex
        split
        · rename_i n cc
          split
          · rename_i el hu
            refine .says hex' fun u hu' => ?_
            cases hu'
            rw [hv.slice0_inv]
            refine ⟨_, ?_, .int _ _⟩
            unfold Builtin.cap_
            simp only [List.getElem?_toArray, List.getElem?_cons_zero, Sem.run_bind, run_underlying hu, Result.andThen_ok, Sem.run_pure]
            rfl
          · exact .no
        · rename_i p n k
          split
          · rename_i el hu
            refine .says hex' fun u hu' => ?_
            cases hu'
            obtain ⟨b, sh, o, cc, sz, _, _, rfl, _⟩ := hv.slice_inv
            refine ⟨goInt cc, ?_, .any _⟩
            unfold Builtin.cap_
            simp only [List.getElem?_toArray, List.getElem?_cons_zero, Sem.run_bind, run_underlying hu, Result.andThen_ok, Sem.run_pure]
          · exact .no
        · exact .no
      · exact .no
    · exact .no
  · -- max
    split
    · rename_i k n k2 m
      match args', ha with
      | [v1, v2], ha =>
      have hex' : execOp a.eval o = valueOf (Builtin.max_ ts.toArray o.type [v1, v2].toArray) := hex
      refine .says hex' fun u hu' => ?_
      cases hu'
      have h1 : v1 = _ := VR.int_inv ha.1
      have h2 : v2 = _ := VR.int_inv ha.2.1
      rw [h1, h2]
      refine ⟨.int k (if m > n then m else n), ?_, ?_⟩
      · rfl
      · rw [ltI_eq]
        by_cases hlt : n < m
        · rw [if_pos hlt, decide_eq_true hlt]; exact .int _ _
        · rw [if_neg hlt, decide_eq_false hlt]; exact .int _ _
    · exact .no
  · -- min
    split
    · rename_i k n k2 m
      match args', ha with
      | [v1, v2], ha =>
      have hex' : execOp a.eval o = valueOf (Builtin.min_ ts.toArray o.type [v1, v2].toArray) := hex
      refine .says hex' fun u hu' => ?_
      cases hu'
      have h1 : v1 = _ := VR.int_inv ha.1
      have h2 : v2 = _ := VR.int_inv ha.2.1
      rw [h1, h2]
      refine ⟨.int k (if m < n then m else n), ?_, ?_⟩
      · rfl
      · rw [ltI_eq]
        by_cases hlt : m < n
        · rw [if_pos hlt, decide_eq_true hlt]; exact .int _ _
        · rw [if_neg hlt, decide_eq_false hlt]; exact .int _ _
    · exact .no
  · -- append
    split
    · rename_i t u
      split
      · rename_i s y
        match args', ha with
        | [s', y'], ha =>
        have hex' : execOp a.eval o = valueOf (Builtin.append_ #[t, u] o.type #[s', y']) := hex
        exact .does hex' (appendV_ok h ha.1 ha.2.1)
      · exact .no
    · exact .no
  · -- copy
    split
    · rename_i t ts
      split
      · rename_i d y
        match args', ha with
        | [d', y'], ha =>
        have hex' : execOp a.eval o = valueOf (Builtin.copy_ (t :: ts).toArray o.type #[d', y']) := hex
        exact .does hex' (copyV_ok h ha.1 ha.2.1)
      · exact .no
    · exact .no
  · -- clear
    split
    · rename_i t
      split
      · rename_i d
        match args', ha with
        | [d'], ha =>
        have hex' : execOp a.eval o = valueOf (Builtin.clear_ #[t] o.type #[d']) := hex
        exact .does hex' (clearV_ok h ha.1)
      · exact .no
    · exact .no
  · -- unsafe.SliceData
    split
    · rename_i p n k
      match args', ha with
      | [v'], ha =>
      have hv := ha.1
      have hex' : execOp a.eval o = valueOf (Builtin.unsafeSliceData_ ts.toArray o.type #[v']) := hex
      refine .says hex' fun u hu' => ?_
      cases hu'
      obtain ⟨b, sh, off', cc, sz, hsp, hb, rfl, h4, _, _, _, _, hoff⟩ := VR.slice_inv hv
      have := hoff (by omega); subst this
      refine ⟨_, Go.Lib.run_unsafeSliceData_row (P := x.P) w ts.toArray o.type _ _ cc (by omega), ?_⟩
      have := VR.ptr (e := e) p.block p.off b sh hb
      cases p with | mk pb po ps => cases hsp; exact this
    · exact .no
  · -- unsafe.String
    split
    · rename_i p l
      split
      · rename_i t ts
        match args', ha with
        | [p', l'], ha =>
        have hex' : execOp a.eval o = valueOf (Builtin.unsafeString_ (t :: ts).toArray o.type #[p', l']) := hex
        exact .does hex' (unsafeStrV_ok h ha.1 ha.2.1)
      · exact .no
    · exact .no
  · exact .no
end Go.X
/-
  Part fifteen: each operation that the executor knows.
-/
namespace Go.X
open Go
variable {x : Cx} {e : Env} {S : AS} {w : World} {N : Nat} {f : Fr} {a : Act}

theorem parts_arr (parts : Array (Nat × Operand)) (ρ : Operand → Value) : (parts.map fun (i, y) => (i, ρ y)) = (parts.toList.map fun p => (p.1, ρ p.2)).toArray := by apply Array.ext'; simp
theorem ops_arr (l : Array Operand) (ρ : Operand → Value) : l.map ρ = (l.toList.map ρ).toArray := by apply Array.ext'; simp
theorem sem_ok (h : Rel x e S w) (hf : FR e N f a.tmps) (o : Oper) : ResOK x e S w a.eval o (sem x f o.op) := by
  have E := ev_ok h hf
  generalize hop : o.op = op
  cases op with
  | move y => exact .pure _ fun v hv => by cases hv; exact ⟨_, by unfold execOp; rw [hop]; rfl, E y⟩
  | assign y => exact .pure _ fun v hv => by cases hv; exact ⟨_, by unfold execOp; rw [hop]; rfl, E y⟩
  | pick c p q =>
    refine .pure _ fun v hv => ?_
    obtain ⟨v', h1, h2⟩ := pick_ok (w := w) (E c) (E p) (E q) v hv
    refine ⟨v', ?_, h2⟩
    unfold execOp; rw [hop]
    simp only [Sem.run_bind] at h1 ⊢
    cases hb : (asBool (a.eval c)).run x.P w with
    | halt _ _ => rw [hb] at h1; cases h1
    | ok b w1 => rw [hb] at h1; simp only [Result.andThen_ok, Sem.run_pure] at h1 ⊢; cases h1; rfl
  | alloc t => exact .does (s := Instr.alloc t true (.tuple #[])) (by unfold execOp; rw [hop]) (allocV_ok h)
  | box t y => exact .does (s := Instr.box t (a.eval y)) (by unfold execOp; rw [hop]) (boxV_ok h (E y))
  | build t parts =>
    refine .says (s := Instr.build t (parts.toList.map fun p => (p.1, a.eval p.2)).toArray) (by unfold execOp; rw [hop]; simp only [parts_arr]) (buildV_ok (evParts_ok h hf parts.toList))
  | buildSlice t len parts =>
    refine .does (s := Instr.buildSlice t len (parts.toList.map fun p => (p.1, a.eval p.2)).toArray) (by unfold execOp; rw [hop]; simp only [parts_arr]) (buildSliceV_ok h (evParts_ok h hf parts.toList))
  | insert t m k y => exact .doesU (s := Instr.mapUpdate t (a.eval m) (a.eval k) (a.eval y)) (by unfold execOp; rw [hop]) (mapUpdateV_ok h (E m) (E k) (E y))
  | mapUpdate t m k y => exact .doesU (s := Instr.mapUpdate t (a.eval m) (a.eval k) (a.eval y)) (by unfold execOp; rw [hop]) (mapUpdateV_ok h (E m) (E k) (E y))
  | load t y => exact .reads (s := Instr.loadAt t (a.eval y)) (by unfold execOp; rw [hop]) (loadV_ok h (E y))
  | store t p y => exact .doesU (s := Instr.storeAt t (a.eval p) (a.eval y)) (by unfold execOp; rw [hop]) (storeV_ok h (E p) (E y))
  | nilCheck y =>
    refine .pure _ fun v hv => ?_
    obtain ⟨p, h1, h2⟩ := nilCheckV_ok (E y) hv
    refine ⟨_, ?_, h2⟩
    unfold execOp; rw [hop]; simp only [h1]; rfl
  | binOp op t p q u => exact .says (s := do eqGuard op t p q (a.eval p) (a.eval q); binOp op t (a.eval p) (a.eval q)) (by unfold execOp; rw [hop]) (binV_ok (E p) (E q))
  | unOp op t y => exact .says (s := Op.unary op (a.eval y)) (by unfold execOp; rw [hop]) (unV_ok (E y))
  | convert src dst y => exact convR_ok h hop (E y)
  | makeInterface t y => exact .says (s := Instr.makeInterface t (a.eval y)) (by unfold execOp; rw [hop]) (ifaceV_ok (E y))
  | makeFunc fn p q => exact .says (s := Instr.makeFunc fn (p.toList.map a.eval).toArray (q.toList.map a.eval).toArray) (by unfold execOp; rw [hop]; simp only [ops_arr]) (funcV_ok (evs_ok h hf _) (evs_ok h hf _))
  | makeMap t r => exact .does (s := Instr.makeMap t (r.map a.eval)) (by unfold execOp; rw [hop]) (makeMapV_ok h (evO_ok h hf r))
  | makeSlice t l c => exact .does (s := Instr.makeSlice t (a.eval l) (a.eval c)) (by unfold execOp; rw [hop]) (makeSliceV_ok h (E l) (E c))
  | slice t y lo hi mx =>
    show ResOK x e S w a.eval o (sliceR x t (ev x f y) (evO x f lo) (evO x f hi) (evO x f mx))
    unfold sliceR
    split
    · split
      · rename_i hm
        cases mx with
        | some m => cases hm
        | none => exact .does (s := Instr.sliceAt t (a.eval y) (lo.map a.eval) (hi.map a.eval) none) (by unfold execOp; rw [hop]; rfl) (sliceArr_ok h (E y) (evO_ok h hf lo) (evO_ok h hf hi))
      · exact .no
    · exact .says (s := Instr.sliceAt t (a.eval y) (lo.map a.eval) (hi.map a.eval) (mx.map a.eval)) (by unfold execOp; rw [hop]) (sliceV_ok (E y) (evO_ok h hf lo) (evO_ok h hf hi) (evO_ok h hf mx))
  | fieldAddr t y i => exact .says (s := Instr.fieldAt t (a.eval y) i) (by unfold execOp; rw [hop]) (fieldAddrV_ok (E y))
  | field t y i => exact .says (s := Instr.field t (a.eval y) i) (by unfold execOp; rw [hop]) (fieldV_ok (E y))
  | indexAddr t y i => exact .says (s := Instr.indexAt t (a.eval y) (a.eval i)) (by unfold execOp; rw [hop]) (indexAddrV_ok (E y) (E i))
  | index t y i => exact .says (s := Instr.index t (a.eval y) (a.eval i)) (by unfold execOp; rw [hop]) (indexV_ok (E y) (E i))
  | lookup t m k ok => exact .reads (s := Instr.lookup t (a.eval m) (a.eval k) ok) (by unfold execOp; rw [hop]) (lookupV_ok h (E m) (E k))
  | typeAssert y t u ok => exact .says (s := Instr.typeAssert (a.eval y) t u ok) (by unfold execOp; rw [hop]) (assertV_ok (E y))
  | extract y i => exact .says (s := Instr.extract (a.eval y) i) (by unfold execOp; rw [hop]) (extractV_ok (E y))
  | call c =>
    show ResOK x e S w a.eval o (callR x f c)
    unfold callR
    cases hc : c.callee with
    | value g => exact .call c g _ _ hop hc (E g) (evs_ok h hf _)
    | builtin b => exact builtinR_ok h hop hc (evs_ok h hf _)
    | invoke _ _ => exact .no
  | defer c =>
    show ResOK x e S w a.eval o (deferR x f c)
    unfold deferR
    cases hc : c.callee with
    | value g =>
      simp only
      cases ha : c.args.toList with
      | nil => exact .defer c g _ hop hc (E g) (Array.toList_inj.1 (by rw [ha]))
      | cons _ _ => exact .no
    | builtin b => exact .no
    | invoke _ _ => exact .no
  | _ => exact .no
end Go.X
