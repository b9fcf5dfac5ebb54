import Derived.Test.YtaknejhfphalaaaGreatDoorXDraw1
import Derived.Test.YtaknejhfphalaaaGreatDoorXVeq
/-
  Part twenty-three: what an operation does hangs on the temporaries alone at which it looks.
-/
namespace Go.X
open Go
variable {x : Cx} {f f' : Fr}

def Same (f f' : Fr) (l : List Nat) : Prop := ∀ t, t ∈ l → f.get t = f'.get t
theorem ev_same {o : Operand} {l : List Nat} (h : Same f f' (tmpO o l)) : ev x f o = ev x f' o := by
  cases o with
  | tmp t => have := h t (by simp [tmpO]); simp only [ev, this]
  | _ => rfl
theorem Same.tl {o : Operand} {l : List Nat} (h : Same f f' (tmpO o l)) : Same f f' l := fun t ht => h t (by cases o <;> simp [tmpO, ht])
theorem evO_same {o : Option Operand} {l : List Nat} (h : Same f f' (tmpOO o l)) : evO x f o = evO x f' o := by
  cases o with
  | none => rfl
  | some o => simp only [evO]; rw [ev_same (show Same f f' (tmpO o l) from h)]
theorem Same.tlO {o : Option Operand} {l : List Nat} (h : Same f f' (tmpOO o l)) : Same f f' l := by
  cases o with
  | none => exact h
  | some o => exact Same.tl (o := o) h
theorem Same.tls {m : List Nat} : ∀ {l : List Operand}, Same f f' (tmpsO l m) → Same f f' m
  | [], h => h
  | o :: l, h => Same.tls (l := l) (Same.tl (o := o) h)
theorem evs_same {m : List Nat} : ∀ {l : List Operand}, Same f f' (tmpsO l m) → evs x f l = evs x f' l
  | [], _ => rfl
  | o :: l, h => by
    show ev x f o :: evs x f l = ev x f' o :: evs x f' l
    rw [ev_same (show Same f f' (tmpO o (tmpsO l m)) from h), evs_same (l := l) (Same.tl (o := o) h)]
theorem evParts_same : ∀ {l : List (Nat × Operand)}, Same f f' (tmpsP l) → evParts x f l = evParts x f' l
  | [], _ => rfl
  | (i, o) :: l, h => by
    simp only [evParts]
    rw [ev_same (show Same f f' (tmpO o (tmpsP l)) from h), evParts_same (l := l) (Same.tl (o := o) h)]
theorem sem_same {op : Op} (h : Same f f' (seen op)) : sem x f op = sem x f' op := by
  cases op with
  | move y => simp only [sem]; rw [ev_same h]
  | assign y => simp only [sem]; rw [ev_same h]
  | pick c a b => simp only [sem]; rw [ev_same h, ev_same h.tl, ev_same h.tl.tl]
  | box t y => simp only [sem]; rw [ev_same h]
  | build t ps => simp only [sem]; rw [evParts_same h]
  | buildSlice t n ps => simp only [sem]; rw [evParts_same h]
  | insert t m k y => simp only [sem]; rw [ev_same h, ev_same h.tl, ev_same h.tl.tl]
  | mapUpdate t m k y => simp only [sem]; rw [ev_same h, ev_same h.tl, ev_same h.tl.tl]
  | load t a => simp only [sem]; rw [ev_same h]
  | store t a y => simp only [sem]; rw [ev_same h, ev_same h.tl]
  | nilCheck y => simp only [sem]; rw [ev_same h]
  | binOp o t a b u => simp only [sem]; rw [ev_same h, ev_same h.tl]
  | unOp o t y => simp only [sem]; rw [ev_same h]
  | convert s t y => simp only [sem]; rw [ev_same h]
  | makeInterface t y => simp only [sem]; rw [ev_same h]
  | makeFunc fn a b => simp only [sem]; rw [evs_same h, evs_same (Same.tls (l := a.toList) h)]
  | makeMap t r => simp only [sem]; rw [evO_same h]
  | makeSlice t l c => simp only [sem]; rw [ev_same h, ev_same h.tl]
  | slice t y lo hi mx => simp only [sem]; rw [ev_same h, evO_same h.tl, evO_same h.tl.tlO, evO_same h.tl.tlO.tlO]
  | fieldAddr t y i => simp only [sem]; rw [ev_same h]
  | field t y i => simp only [sem]; rw [ev_same h]
  | indexAddr t y i => simp only [sem]; rw [ev_same h, ev_same h.tl]
  | index t y i => simp only [sem]; rw [ev_same h, ev_same h.tl]
  | lookup t m k ok => simp only [sem]; rw [ev_same h, ev_same h.tl]
  | typeAssert y t u ok => simp only [sem]; rw [ev_same h]
  | extract y i => simp only [sem]; rw [ev_same h]
  | call c =>
    simp only [seen] at h
    simp only [sem, callR]
    cases hc : c.callee with
    | value g => rw [hc] at h; simp only; rw [ev_same (show Same f f' (tmpO g (tmpsO c.args.toList [])) from h), evs_same (Same.tl (o := g) h)]
    | builtin b => rw [hc] at h; simp only; rw [evs_same h]
    | invoke r m => rfl
  | defer c =>
    simp only [seen] at h
    simp only [sem, deferR]
    cases hc : c.callee with
    | value g => rw [hc] at h; simp only; rw [ev_same h]
    | builtin b => rfl
    | invoke r m => rfl
  | _ => rfl
theorem rawOp_same {op : Op} {i : Nat} (h : Same f f' (seen op)) : rawOp x f op i = rawOp x f' op i := by
  cases op with
  | box t y => simp only [rawOp]; rw [ev_same h]
  | buildSlice t n ps => simp only [rawOp]; rw [evParts_same h]
  | makeMap t r => cases r <;> rfl
  | _ => rfl
theorem wanted_same {ops : List Oper} {o : Oper} (h : Same f f' (guardT ops o)) : wantedV x ops f o = wantedV x ops f' o := by
  unfold wantedV
  unfold guardT at h
  cases hg : o.guard with
  | none => rfl
  | some jw =>
    obtain ⟨j, want⟩ := jw
    rw [hg] at h
    simp only at h ⊢
    cases hj : nth ops j with
    | none => rfl
    | some oj =>
      rw [hj] at h
      simp only at h ⊢
      cases hd : oj.dst with
      | none => rfl
      | some d =>
        rw [hd] at h
        simp only at h ⊢
        have : ev x f (.tmp d) = ev x f' (.tmp d) := ev_same (l := []) h
        rw [this]
end Go.X
