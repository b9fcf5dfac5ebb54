import Derived.Test.YtofffmieimggmaaGreatDoorXOp11
/-
  Part fifteen: each operation that the executor knows.
-/
namespace Go.X
open Go
variable {x : Cx} {e : Env} {S : AS} {w : World} {N : Nat} {f : Fr} {a : Act}

theorem parts_arr (parts : Array (Nat × Operand)) (ρ : Operand → Value) : (parts.map fun (i, y) => (i, ρ y)) = (parts.toList.map fun p => (p.1, ρ p.2)).toArray := by apply Array.ext'; simp
theorem ops_arr (l : Array Operand) (ρ : Operand → Value) : l.map ρ = (l.toList.map ρ).toArray := by apply Array.ext'; simp
theorem sem_ok (h : Rel x e S w) (hf : FR e N f a.tmps) (o : Oper) : ResOK x e S w a.eval o (sem x f o.op) := by
  have E := ev_ok h hf
  generalize hop : o.op = op
  cases op with
  | move y => exact .pure _ fun v hv => by cases hv; exact ⟨_, by unfold execOp; rw [hop]; rfl, E y⟩
  | assign y => exact .pure _ fun v hv => by cases hv; exact ⟨_, by unfold execOp; rw [hop]; rfl, E y⟩
  | pick c p q =>
    refine .pure _ fun v hv => ?_
    obtain ⟨v', h1, h2⟩ := pick_ok (w := w) (E c) (E p) (E q) v hv
    refine ⟨v', ?_, h2⟩
    unfold execOp; rw [hop]
    simp only [Sem.run_bind] at h1 ⊢
    cases hb : (asBool (a.eval c)).run x.P w with
    | halt _ _ => rw [hb] at h1; cases h1
    | ok b w1 => rw [hb] at h1; simp only [Result.andThen_ok, Sem.run_pure] at h1 ⊢; cases h1; rfl
  | alloc t => exact .does (s := Instr.alloc t true (.tuple #[])) (by unfold execOp; rw [hop]) (allocV_ok h)
  | box t y => exact .does (s := Instr.box t (a.eval y)) (by unfold execOp; rw [hop]) (boxV_ok h (E y))
  | build t parts =>
    refine .says (s := Instr.build t (parts.toList.map fun p => (p.1, a.eval p.2)).toArray) (by unfold execOp; rw [hop]; simp only [parts_arr]) (buildV_ok (evParts_ok h hf parts.toList))
  | buildSlice t len parts =>
    refine .does (s := Instr.buildSlice t len (parts.toList.map fun p => (p.1, a.eval p.2)).toArray) (by unfold execOp; rw [hop]; simp only [parts_arr]) (buildSliceV_ok h (evParts_ok h hf parts.toList))
  | insert t m k y => exact .doesU (s := Instr.mapUpdate t (a.eval m) (a.eval k) (a.eval y)) (by unfold execOp; rw [hop]) (mapUpdateV_ok h (E m) (E k) (E y))
  | mapUpdate t m k y => exact .doesU (s := Instr.mapUpdate t (a.eval m) (a.eval k) (a.eval y)) (by unfold execOp; rw [hop]) (mapUpdateV_ok h (E m) (E k) (E y))
  | load t y => exact .reads (s := Instr.loadAt t (a.eval y)) (by unfold execOp; rw [hop]) (loadV_ok h (E y))
  | store t p y => exact .doesU (s := Instr.storeAt t (a.eval p) (a.eval y)) (by unfold execOp; rw [hop]) (storeV_ok h (E p) (E y))
  | nilCheck y =>
    refine .pure _ fun v hv => ?_
    obtain ⟨p, h1, h2⟩ := nilCheckV_ok (E y) hv
    refine ⟨_, ?_, h2⟩
    unfold execOp; rw [hop]; simp only [h1]; rfl
  | binOp op t p q u => exact .says (s := do eqGuard op t p q (a.eval p) (a.eval q); binOp op t (a.eval p) (a.eval q)) (by unfold execOp; rw [hop]) (binV_ok (E p) (E q))
  | unOp op t y => exact .says (s := Op.unary op (a.eval y)) (by unfold execOp; rw [hop]) (unV_ok (E y))
  | convert src dst y => exact convR_ok h hop (E y)
  | makeInterface t y => exact .says (s := Instr.makeInterface t (a.eval y)) (by unfold execOp; rw [hop]) (ifaceV_ok (E y))
  | makeFunc fn p q => exact .says (s := Instr.makeFunc fn (p.toList.map a.eval).toArray (q.toList.map a.eval).toArray) (by unfold execOp; rw [hop]; simp only [ops_arr]) (funcV_ok (evs_ok h hf _) (evs_ok h hf _))
  | makeMap t r => exact .does (s := Instr.makeMap t (r.map a.eval)) (by unfold execOp; rw [hop]) (makeMapV_ok h (evO_ok h hf r))
  | makeSlice t l c => exact .does (s := Instr.makeSlice t (a.eval l) (a.eval c)) (by unfold execOp; rw [hop]) (makeSliceV_ok h (E l) (E c))
  | slice t y lo hi mx => exact .says (s := Instr.sliceAt t (a.eval y) (lo.map a.eval) (hi.map a.eval) (mx.map a.eval)) (by unfold execOp; rw [hop]) (sliceV_ok (E y) (evO_ok h hf lo) (evO_ok h hf hi) (evO_ok h hf mx))
  | fieldAddr t y i => exact .says (s := Instr.fieldAt t (a.eval y) i) (by unfold execOp; rw [hop]) (fieldAddrV_ok (E y))
  | field t y i => exact .says (s := Instr.field t (a.eval y) i) (by unfold execOp; rw [hop]) (fieldV_ok (E y))
  | indexAddr t y i => exact .says (s := Instr.indexAt t (a.eval y) (a.eval i)) (by unfold execOp; rw [hop]) (indexAddrV_ok (E y) (E i))
  | index t y i => exact .says (s := Instr.index t (a.eval y) (a.eval i)) (by unfold execOp; rw [hop]) (indexV_ok (E y) (E i))
  | lookup t m k ok => exact .reads (s := Instr.lookup t (a.eval m) (a.eval k) ok) (by unfold execOp; rw [hop]) (lookupV_ok h (E m) (E k))
  | typeAssert y t u ok => exact .says (s := Instr.typeAssert (a.eval y) t u ok) (by unfold execOp; rw [hop]) (assertV_ok (E y))
  | extract y i => exact .says (s := Instr.extract (a.eval y) i) (by unfold execOp; rw [hop]) (extractV_ok (E y))
  | call c =>
    show ResOK x e S w a.eval o (callR x f c)
    unfold callR
    cases hc : c.callee with
    | value g => exact .call c g _ _ hop hc (E g) (evs_ok h hf _)
    | builtin b => exact builtinR_ok h hop hc (evs_ok h hf _)
    | invoke _ _ => exact .no
  | defer c =>
    show ResOK x e S w a.eval o (deferR x f c)
    unfold deferR
    cases hc : c.callee with
    | value g =>
      simp only
      cases ha : c.args.toList with
      | nil => exact .defer c g _ hop hc (E g) (Array.toList_inj.1 (by rw [ha]))
      | cons _ _ => exact .no
    | builtin b => exact .no
    | invoke _ _ => exact .no
  | _ => exact .no
end Go.X
