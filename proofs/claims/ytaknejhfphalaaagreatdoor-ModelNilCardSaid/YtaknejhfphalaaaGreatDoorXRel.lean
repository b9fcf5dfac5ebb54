import Derived.Test.YtaknejhfphalaaaGreatDoorXExec
import Derived.Deep.MidRow
import Derived.RowKit3
import Derived.RangeFuncRecord
/-
  Part three: how the executor's state stands to the model's, and how the model's may turn in one step.
-/
namespace Go.X
open Go

/-! cells written one by one -/
def putL (c : Array Value) : Nat → List Value → Array Value
  | _, [] => c
  | o, v :: r => putL (c.setIfInBounds o v) (o + 1) r
theorem putL_size : ∀ (vs : List Value) (c : Array Value) (o : Nat), (putL c o vs).size = c.size
  | [], _, _ => rfl
  | v :: r, c, o => by rw [putL, putL_size r]; simp
theorem putL_out : ∀ (vs : List Value) (c : Array Value) (o k : Nat), (k < o ∨ o + vs.length ≤ k) → (putL c o vs)[k]? = c[k]?
  | [], _, _, _, _ => rfl
  | v :: r, c, o, k, h => by
    rw [putL, putL_out r _ _ _ (by simp at h; omega), Array.getElem?_setIfInBounds_ne (by simp at h; omega)]
theorem putL_in : ∀ (vs : List Value) (c : Array Value) (o j : Nat), o + vs.length ≤ c.size → j < vs.length → (putL c o vs)[o + j]? = vs[j]?
  | [], _, _, j, _, hj => by simp at hj
  | v :: r, c, o, 0, h, _ => by
    rw [putL, putL_out r _ _ _ (by left; omega)]
    simp at h
    simp [show o < c.size by omega]
  | v :: r, c, o, j + 1, h, hj => by
    simp at h hj
    rw [putL, show o + (j + 1) = o + 1 + j by omega, putL_in r _ (o + 1) j (by simp; omega) hj]
    simp
theorem setCell_heap (w : World) (b o : Nat) (v : Value) (c : Array Value) (t : TypeId) (fz : Nat × Nat) (h : w.heap[b]? = some (.cells c t fz)) :
    (w.setCell ⟨b, o, none⟩ v).heap[b]? = some (.cells (c.setIfInBounds o v) t fz) := by
  simp [World.setCell, Array.getElem?_modify, h]
theorem setCell_other (w : World) (b o k : Nat) (v : Value) (h : k ≠ b) : (w.setCell ⟨b, o, none⟩ v).heap[k]? = w.heap[k]? := by
  simp [World.setCell, Array.getElem?_modify, Ne.symm h]
theorem setCells_heap : ∀ (vs : List Value) (w : World) (b o : Nat) (c : Array Value) (t : TypeId) (fz : Nat × Nat), w.heap[b]? = some (.cells c t fz) →
    (w.setCells b o vs).heap[b]? = some (.cells (putL c o vs) t fz)
  | [], _, _, _, _, _, _, h => h
  | v :: r, w, b, o, c, t, fz, h => by rw [World.setCells, putL]; exact setCells_heap r _ b (o + 1) _ t fz (setCell_heap w b o v c t fz h)
theorem setCells_other : ∀ (vs : List Value) (w : World) (b o k : Nat), k ≠ b → (w.setCells b o vs).heap[k]? = w.heap[k]?
  | [], _, _, _, _, _ => rfl
  | v :: r, w, b, o, k, h => by rw [World.setCells, setCells_other r _ b (o + 1) k h, setCell_other w b o k v h]
theorem setCells_size : ∀ (vs : List Value) (w : World) (b o : Nat), (w.setCells b o vs).heap.size = w.heap.size
  | [], _, _, _ => rfl
  | v :: r, w, b, o => by rw [World.setCells, setCells_size r]; simp [World.setCell]
theorem setCells_rest : ∀ (vs : List Value) (w : World) (b o : Nat), (w.setCells b o vs).os = w.os ∧ (w.setCells b o vs).tape = w.tape ∧ (w.setCells b o vs).output = w.output
  | [], _, _, _ => ⟨rfl, rfl, rfl⟩
  | v :: r, w, b, o => by rw [World.setCells]; exact setCells_rest r (w.setCell ⟨b, o, none⟩ v) b (o + 1)

/-! the relation -/
/-- what no cell of which is frozen -/
def thawed (n : Nat) (fz : Nat × Nat) : Prop := ∀ o, o < n → ¬ (fz.1 ≤ o ∧ o < fz.2)
/-- a frame -/
structure FR (e : Env) (N : Nat) (f : Fr) (t : Array Value) : Prop where
  size : t.size = N
  val : ∀ i, VR e (tmp0 f i) (t.getD i undef)
/-- one block -/
inductive ObjR (e : Env) : AObj → Obj → Nat → Prop
  | cells (l : List Value) (el : TypeId) (wh : Bool) (c : Array Value) (fz : Nat × Nat) (sh : Nat)
      (hc : ∀ (k : Nat) (v : Value), l[k]? = some v → ∃ v', c[sh + k]? = some v' ∧ VR e v v') (hf : thawed c.size fz) (hw : wh = true → sh = 0 ∧ c.size = l.length) (hz : sh + l.length ≤ c.size) :
      ObjR e (.cells l el wh) (.cells c el fz) sh
  | map (es : List MapEntry) (es' : Array MapEntry) (ck : Nat)
      (h : All2 (fun m m' : MapEntry => m'.key = m.key ∧ m'.born = m.born ∧ VR e m.val m'.val) es es'.toList) : ObjR e (.map es ck) (.map es' ck) 0
  | deferred : ObjR e .deferred (.deferred (some [])) 0
  | loop (st : LoopState) (pend : Option Code) (N : Nat) (f : Fr) (ps : List Nat) (assign body : Code) (r : Loop)
      (h1 : r.state = st) (h2 : r.pending = pend) (h3 : r.params = ps.toArray) (h4 : r.assign = assign) (h5 : r.body = body) (h6 : FR e N f r.tmps) :
      ObjR e (.loop st pend N f ps assign body) (.loop r) 0
  | iter (m since : Nat) (seen : List Nat) (last b sh : Nat) (h : e.blk m = some (b, sh)) : ObjR e (.iter m since seen last) (.mapIter (some b) since seen.toArray last) 0

theorem FR.mono {e e' : Env} (he : e.le e') {N : Nat} {f : Fr} {t : Array Value} (h : FR e N f t) : FR e' N f t := ⟨h.size, fun i => (h.val i).mono he⟩
theorem ObjR.mono {e e' : Env} (he : e.le e') {o : AObj} {o' : Obj} {sh : Nat} (h : ObjR e o o' sh) : ObjR e' o o' sh := by
  cases h with
  | cells l el wh c fz sh hc hf hw hz => exact .cells l el wh c fz sh (fun k v hk => let ⟨v', h1, h2⟩ := hc k v hk; ⟨v', h1, h2.mono he⟩) hf hw hz
  | map es es' ck h => exact .map es es' ck (All2.mono (fun _ _ h => ⟨h.1, h.2.1, h.2.2.mono he⟩) h)
  | deferred => exact .deferred
  | loop st pend N f ps assign body r h1 h2 h3 h4 h5 h6 => exact .loop st pend N f ps assign body r h1 h2 h3 h4 h5 (h6.mono he)
  | iter m since seen last b sh h => exact .iter m since seen last b sh (he.blk _ _ h)

/-- the executor's block i lies at block b of the model's -/
def liesIn (S : AS) (e : Env) (b : Nat) : Prop := ∃ i o sh, S.heap.get i = some o ∧ e.blk i = some (b, sh)
structure Rel (x : Cx) (e : Env) (S : AS) (w : World) : Prop where
  fresh : ∀ i, S.next ≤ i → e.blk i = none
  low : ∀ i, i < x.G → S.heap.get i = none
  next : x.G ≤ S.next
  obj : ∀ i o, S.heap.get i = some o → ∃ b sh o', e.blk i = some (b, sh) ∧ w.heap[b]? = some o' ∧ ObjR e o o' sh ∧ x.G ≤ b
  inj : ∀ i j o o' b sh sh', S.heap.get i = some o → S.heap.get j = some o' → e.blk i = some (b, sh) → e.blk j = some (b, sh') → i = j
  size : ∀ b n, e.sz b = some n → ∃ (c : Array Value) (el : TypeId) (fz : Nat × Nat), w.heap[b]? = some (.cells c el fz) ∧ c.size = n
  bnd : ∀ i b sh, e.blk i = some (b, sh) → b < w.heap.size
  glob : ∀ g, g < x.G → e.blk g = some (g, 0)
  gval : ∀ g l, g < x.G → x.gt g = some l → ∃ (c : Array Value) (el : TypeId) (fz : Nat × Nat), w.heap[g]? = some (.cells c el fz) ∧ ∀ (k : Nat) (v : Value), l[k]? = some v → c[k]? = some v ∧ ∃ d, ground d v = true
  gsz : x.G ≤ w.heap.size

/-- One step, or many: from (e, S, w) to (e1, S1, w1). -/
structure Stp (x : Cx) (e : Env) (S : AS) (w : World) (e1 : Env) (S1 : AS) (w1 : World) : Prop where
  rel : Rel x e1 S1 w1
  le : e.le e1
  os : w1.os = w.os
  tape : w1.tape = w.tape
  output : w1.output = w.output
  grow : w.heap.size ≤ w1.heap.size
  keep : ∀ b, b < w.heap.size → ¬ liesIn S e b → w1.heap[b]? = w.heap[b]?
  live : ∀ b, b < w.heap.size → liesIn S1 e1 b → liesIn S e b
  next : S.next ≤ S1.next
  old : ∀ i, i < S.next → e.blk i = none → e1.blk i = none
theorem Stp.refl {x : Cx} {e : Env} {S : AS} {w : World} (h : Rel x e S w) : Stp x e S w e S w :=
  ⟨h, .refl e, rfl, rfl, rfl, Nat.le_refl _, fun _ _ _ => rfl, fun _ _ h => h, Nat.le_refl _, fun _ _ h => h⟩
theorem Stp.trans {x : Cx} {e e1 e2 : Env} {S S1 S2 : AS} {w w1 w2 : World} (h : Stp x e S w e1 S1 w1) (k : Stp x e1 S1 w1 e2 S2 w2) : Stp x e S w e2 S2 w2 :=
  ⟨k.rel, h.le.trans k.le, k.os.trans h.os, k.tape.trans h.tape, k.output.trans h.output, Nat.le_trans h.grow k.grow,
   fun b hb hn => (k.keep b (Nat.lt_of_lt_of_le hb h.grow) fun hl => hn (h.live b hb hl)).trans (h.keep b hb hn),
   fun b hb hl => h.live b hb (k.live b (Nat.lt_of_lt_of_le hb h.grow) hl), Nat.le_trans h.next k.next,
   fun i hi hb => k.old i (Nat.lt_of_lt_of_le hi h.next) (h.old i hi hb)⟩
/-- A draw. -/
theorem Rel.drew {x : Cx} {e : Env} {S : AS} {w : World} (h : Rel x e S w) : Rel x e S { w with drawn := w.drawn + 1 } :=
  ⟨h.fresh, h.low, h.next, h.obj, h.inj, h.size, h.bnd, h.glob, h.gval, h.gsz⟩
theorem Stp.drew {x : Cx} {e : Env} {S : AS} {w : World} (h : Rel x e S w) : Stp x e S w e S { w with drawn := w.drawn + 1 } :=
  ⟨h.drew, .refl e, rfl, rfl, rfl, Nat.le_refl _, fun _ _ _ => rfl, fun _ _ h => h, Nat.le_refl _, fun _ _ h => h⟩

/-- the environment with one block more -/
def Env.add (e : Env) (i b : Nat) (sh : Nat) (n : Option Nat) : Env :=
  { blk := fun j => if j = i then some (b, sh) else e.blk j, sz := fun c => if c = b then (match e.sz c with | some m => some m | none => n) else e.sz c }
theorem Env.le_add {e : Env} {i b sh : Nat} {n : Option Nat} (h : e.blk i = none) : e.le (e.add i b sh n) :=
  ⟨fun j y hj => by
      simp only [Env.add]
      split
      · rename_i hji; subst hji; rw [h] at hj; cases hj
      · exact hj,
   fun c m hc => by simp only [Env.add]; split <;> simp [hc]⟩
def sizeOfObj : Obj → Option Nat
  | .cells c _ _ => some c.size
  | _ => none

theorem sz_none {x : Cx} {e : Env} {S : AS} {w : World} (h : Rel x e S w) : e.sz w.heap.size = none := by
  cases hs : e.sz w.heap.size with
  | none => rfl
  | some n => obtain ⟨c, el, fz, hc, _⟩ := h.size _ _ hs; simp at hc
/-- A NEW BLOCK. -/
theorem Stp.new {x : Cx} {e : Env} {S : AS} {w : World} (h : Rel x e S w) (o : AObj) (ob : Obj)
    (ho : ObjR (e.add S.next w.heap.size 0 (sizeOfObj ob)) o ob 0) :
    Stp x e S w (e.add S.next w.heap.size 0 (sizeOfObj ob)) (addObj S o) { w with heap := w.heap.push ob } := by
  have hfr : e.blk S.next = none := h.fresh _ (Nat.le_refl _)
  have hle : e.le (e.add S.next w.heap.size 0 (sizeOfObj ob)) := Env.le_add hfr
  have hold : ∀ b, b < w.heap.size → (w.heap.push ob)[b]? = w.heap[b]? := fun b hb => by rw [Array.getElem?_push, if_neg (by omega)]
  have hlt : ∀ {b : Nat} {o' : Obj}, w.heap[b]? = some o' → b < w.heap.size := fun hb => (Array.getElem?_eq_some_iff.1 hb).1
  have hget : ∀ i o', (addObj S o).heap.get i = some o' → (i = S.next ∧ o' = o) ∨ (i ≠ S.next ∧ S.heap.get i = some o') := fun i o' hi => by
    by_cases hin : i = S.next
    · subst hin; simp only [addObj, PT.get_set_same] at hi; cases hi; exact .inl ⟨rfl, rfl⟩
    · simp only [addObj] at hi; rw [PT.get_set_other _ _ _ _ hin] at hi; exact .inr ⟨hin, hi⟩
  have hblk : ∀ i, i ≠ S.next → (e.add S.next w.heap.size 0 (sizeOfObj ob)).blk i = e.blk i := fun i hi => by simp [Env.add, hi]
  have hself : (e.add S.next w.heap.size 0 (sizeOfObj ob)).blk S.next = some (w.heap.size, 0) := by simp [Env.add]
  refine ⟨⟨?_, ?_, ?_, ?_, ?_, ?_, ?_, ?_, ?_, ?_⟩, hle, rfl, rfl, rfl, by simp, fun b hb _ => hold b hb, ?_, by simp [addObj], fun i hi hb => by rw [hblk i (by omega)]; exact hb⟩
  · intro i hi
    have : Nat.succ S.next ≤ i := hi
    rw [hblk i (by omega)]; exact h.fresh i (by omega)
  · intro i hi
    simp only [addObj]
    rw [PT.get_set_other _ _ _ _ (by have := h.next; omega)]; exact h.low i hi
  · have := h.next; simp only [addObj]; omega
  · intro i o' hi
    rcases hget i o' hi with ⟨rfl, rfl⟩ | ⟨hin, hi⟩
    · exact ⟨w.heap.size, 0, ob, hself, by simp, ho, h.gsz⟩
    · obtain ⟨b, sh, o2, h1, h2, h3, h4⟩ := h.obj i o' hi
      exact ⟨b, sh, o2, by rw [hblk i hin]; exact h1, by rw [hold b (hlt h2)]; exact h2, h3.mono hle, h4⟩
  · intro i j o1 o2 b sh sh' hi hj hbi hbj
    rcases hget i o1 hi with ⟨rfl, rfl⟩ | ⟨hin, hi⟩ <;> rcases hget j o2 hj with ⟨rfl, rfl⟩ | ⟨hjn, hj⟩
    · rfl
    · rw [hself] at hbi; cases hbi; rw [hblk j hjn] at hbj; exact absurd (h.bnd _ _ _ hbj) (by omega)
    · rw [hself] at hbj; cases hbj; rw [hblk i hin] at hbi; exact absurd (h.bnd _ _ _ hbi) (by omega)
    · rw [hblk i hin] at hbi; rw [hblk j hjn] at hbj; exact h.inj i j o1 o2 b sh sh' hi hj hbi hbj
  · intro b n hb
    by_cases hbs : b = w.heap.size
    · subst hbs
      simp only [Env.add, if_true, sz_none h] at hb
      cases ob <;> simp [sizeOfObj] at hb
      exact ⟨_, _, _, (by rw [Array.getElem?_push, if_pos rfl]), hb⟩
    · simp only [Env.add, if_neg hbs] at hb
      obtain ⟨c, el, fz, hc, hn⟩ := h.size b n hb
      exact ⟨c, el, fz, by rw [hold b (hlt hc)]; exact hc, hn⟩
  · intro i b sh hb
    by_cases hin : i = S.next
    · subst hin; rw [hself] at hb; cases hb; simp
    · rw [hblk i hin] at hb; have := h.bnd i b sh hb; simp; omega
  · intro g hg
    rw [hblk g (by have := h.next; omega)]; exact h.glob g hg
  · intro g l hg hl
    obtain ⟨c, el, fz, hc, hv⟩ := h.gval g l hg hl
    exact ⟨c, el, fz, by rw [hold g (hlt hc)]; exact hc, hv⟩
  · have := h.gsz; simp; omega
  · rintro b hb ⟨i, o', sh, hi, hbi⟩
    rcases hget i o' hi with ⟨rfl, rfl⟩ | ⟨hin, hi⟩
    · rw [hself] at hbi; cases hbi; omega
    · exact ⟨i, o', sh, hi, by rw [hblk i hin] at hbi; exact hbi⟩

/-- A BLOCK OF ITS OWN IS TURNED. -/
theorem Stp.upd {x : Cx} {e : Env} {S : AS} {w w1 : World} (h : Rel x e S w) {i b sh : Nat} {o o1 : AObj} {ob ob1 : Obj}
    (hi : S.heap.get i = some o) (hb : e.blk i = some (b, sh)) (hw : w.heap[b]? = some ob) (hw1 : w1.heap[b]? = some ob1)
    (ho : ObjR e o1 ob1 sh) (hs : ∀ (c : Array Value) el fz, ob = .cells c el fz → ∃ (c1 : Array Value) (el1 : TypeId) (fz1 : Nat × Nat), ob1 = .cells c1 el1 fz1 ∧ c1.size = c.size)
    (hoth : ∀ k, k ≠ b → w1.heap[k]? = w.heap[k]?) (hsz : w1.heap.size = w.heap.size) (hr : w1.os = w.os ∧ w1.tape = w.tape ∧ w1.output = w.output) :
    Stp x e S w e { S with heap := S.heap.set i (some o1) } w1 := by
  obtain ⟨b', sh', o', hb', hw', _, hG⟩ := h.obj i o hi
  rw [hb] at hb'; cases hb'
  rw [hw] at hw'; cases hw'
  have hget : ∀ j o2, (S.heap.set i (some o1)).get j = some o2 → (j = i ∧ o2 = o1) ∨ (j ≠ i ∧ S.heap.get j = some o2) := fun j o2 hj => by
    by_cases hji : j = i
    · subst hji; rw [PT.get_set_same] at hj; cases hj; exact .inl ⟨rfl, rfl⟩
    · rw [PT.get_set_other _ _ _ _ hji] at hj; exact .inr ⟨hji, hj⟩
  have hiG : x.G ≤ i := by
    rcases Nat.lt_or_ge i x.G with hlt | hge
    · rw [h.low i hlt] at hi; cases hi
    · exact hge
  refine ⟨⟨h.fresh, ?_, h.next, ?_, ?_, ?_, ?_, h.glob, ?_, ?_⟩, .refl e, hr.1, hr.2.1, hr.2.2, by omega, ?_, ?_, Nat.le_refl _, fun _ _ h => h⟩
  · intro j hj
    show (S.heap.set i (some o1)).get j = none
    rw [PT.get_set_other _ _ _ _ (by omega)]; exact h.low j hj
  · intro j o2 hj
    rcases hget j o2 hj with ⟨rfl, rfl⟩ | ⟨hji, hj⟩
    · exact ⟨b, sh, ob1, hb, hw1, ho, hG⟩
    · obtain ⟨c, s2, o3, h1, h2, h3, h4⟩ := h.obj j o2 hj
      have hcb : c ≠ b := fun hcb => hji (h.inj j i o2 o b s2 sh hj hi (hcb ▸ h1) hb)
      exact ⟨c, s2, o3, h1, by rw [hoth c hcb]; exact h2, h3, h4⟩
  · intro j k o2 o3 c s2 s3 hj hk hbj hbk
    have hj' : ∃ o2', S.heap.get j = some o2' := by
      rcases hget j o2 hj with ⟨rfl, _⟩ | ⟨_, hj⟩
      · exact ⟨o, hi⟩
      · exact ⟨o2, hj⟩
    have hk' : ∃ o3', S.heap.get k = some o3' := by
      rcases hget k o3 hk with ⟨rfl, _⟩ | ⟨_, hk⟩
      · exact ⟨o, hi⟩
      · exact ⟨o3, hk⟩
    obtain ⟨_, hj'⟩ := hj'; obtain ⟨_, hk'⟩ := hk'
    exact h.inj j k _ _ c s2 s3 hj' hk' hbj hbk
  · intro c n hc
    obtain ⟨a, el, fz, h1, h2⟩ := h.size c n hc
    by_cases hcb : c = b
    · subst hcb
      rw [hw] at h1; cases h1
      obtain ⟨c1, el1, fz1, rfl, hsz1⟩ := hs a el fz rfl
      exact ⟨c1, el1, fz1, hw1, hsz1.trans h2⟩
    · exact ⟨a, el, fz, by rw [hoth c hcb]; exact h1, h2⟩
  · intro j c s2 hj; rw [hsz]; exact h.bnd j c s2 hj
  · intro g l hg hl
    obtain ⟨c, el, fz, h1, h2⟩ := h.gval g l hg hl
    exact ⟨c, el, fz, by rw [hoth g (by omega)]; exact h1, h2⟩
  · rw [hsz]; exact h.gsz
  · intro c _ hn
    exact hoth c fun hcb => hn ⟨i, o, sh, hi, hcb ▸ hb⟩
  · rintro c _ ⟨j, o2, s2, hj, hbj⟩
    rcases hget j o2 hj with ⟨rfl, _⟩ | ⟨_, hj⟩
    · exact ⟨j, o, s2, hi, hbj⟩
    · exact ⟨j, o2, s2, hj, hbj⟩

/-- A BLOCK OF ITS OWN IS GIVEN UP: what lies there may be whatever, of the same size. -/
theorem Stp.drop {x : Cx} {e : Env} {S : AS} {w w1 : World} (h : Rel x e S w) {i b sh : Nat} {o : AObj}
    (hi : S.heap.get i = some o) (hb : e.blk i = some (b, sh))
    (hs : ∀ (c : Array Value) el fz, w.heap[b]? = some (.cells c el fz) → ∃ (c1 : Array Value) (el1 : TypeId) (fz1 : Nat × Nat), w1.heap[b]? = some (.cells c1 el1 fz1) ∧ c1.size = c.size)
    (hoth : ∀ k, k ≠ b → w1.heap[k]? = w.heap[k]?) (hsz : w1.heap.size = w.heap.size) (hr : w1.os = w.os ∧ w1.tape = w.tape ∧ w1.output = w.output) :
    Stp x e S w e (dropObj S i) w1 := by
  obtain ⟨b', sh', o', hb', hw', _, hG⟩ := h.obj i o hi
  rw [hb] at hb'; cases hb'
  have hget : ∀ j o2, (dropObj S i).heap.get j = some o2 → j ≠ i ∧ S.heap.get j = some o2 := fun j o2 hj => by
    by_cases hji : j = i
    · subst hji; simp only [dropObj] at hj; rw [PT.get_set_same] at hj; cases hj
    · simp only [dropObj] at hj; rw [PT.get_set_other _ _ _ _ hji] at hj; exact ⟨hji, hj⟩
  refine ⟨⟨h.fresh, ?_, h.next, ?_, ?_, ?_, ?_, h.glob, ?_, ?_⟩, .refl e, hr.1, hr.2.1, hr.2.2, by omega, ?_, ?_, Nat.le_refl _, fun _ _ h => h⟩
  · intro j hj
    show (S.heap.set i none).get j = none
    by_cases hji : j = i
    · subst hji; rw [PT.get_set_same]
    · rw [PT.get_set_other _ _ _ _ hji]; exact h.low j hj
  · intro j o2 hj
    obtain ⟨hji, hj⟩ := hget j o2 hj
    obtain ⟨c, s2, o3, h1, h2, h3, h4⟩ := h.obj j o2 hj
    have hcb : c ≠ b := fun hcb => hji (h.inj j i o2 o b s2 sh hj hi (hcb ▸ h1) hb)
    exact ⟨c, s2, o3, h1, by rw [hoth c hcb]; exact h2, h3, h4⟩
  · intro j k o2 o3 c s2 s3 hj hk hbj hbk
    exact h.inj j k _ _ c s2 s3 (hget j o2 hj).2 (hget k o3 hk).2 hbj hbk
  · intro c n hc
    obtain ⟨a, el, fz, h1, h2⟩ := h.size c n hc
    by_cases hcb : c = b
    · subst hcb
      obtain ⟨c1, el1, fz1, h3, hsz1⟩ := hs a el fz h1
      exact ⟨c1, el1, fz1, h3, hsz1.trans h2⟩
    · exact ⟨a, el, fz, by rw [hoth c hcb]; exact h1, h2⟩
  · intro j c s2 hj; rw [hsz]; exact h.bnd j c s2 hj
  · intro g l hg hl
    obtain ⟨c, el, fz, h1, h2⟩ := h.gval g l hg hl
    exact ⟨c, el, fz, by rw [hoth g (by omega)]; exact h1, h2⟩
  · rw [hsz]; exact h.gsz
  · intro c _ hn
    exact hoth c fun hcb => hn ⟨i, o, sh, hi, hcb ▸ hb⟩
  · rintro c _ ⟨j, o2, s2, hj, hbj⟩
    exact ⟨j, o2, s2, (hget j o2 hj).2, hbj⟩

/-- A BLOCK OF ITS OWN GOES ON UNDER A NEW NUMBER (an append that has room). -/
theorem Stp.move {x : Cx} {e : Env} {S : AS} {w w1 : World} (h : Rel x e S w) {i b sh sh1 : Nat} {o o1 : AObj} {ob1 : Obj}
    (hi : S.heap.get i = some o) (hb : e.blk i = some (b, sh)) (hw1 : w1.heap[b]? = some ob1)
    (ho : ObjR (e.add S.next b sh1 none) o1 ob1 sh1)
    (hs : ∀ (c : Array Value) el fz, w.heap[b]? = some (.cells c el fz) → ∃ (c1 : Array Value) (el1 : TypeId) (fz1 : Nat × Nat), w1.heap[b]? = some (.cells c1 el1 fz1) ∧ c1.size = c.size)
    (hoth : ∀ k, k ≠ b → w1.heap[k]? = w.heap[k]?) (hsz : w1.heap.size = w.heap.size) (hr : w1.os = w.os ∧ w1.tape = w.tape ∧ w1.output = w.output) :
    Stp x e S w (e.add S.next b sh1 none) (addObj (dropObj S i) o1) w1 := by
  have hd := Stp.drop h hi hb hs hoth hsz hr
  have hfr : e.blk S.next = none := h.fresh _ (Nat.le_refl _)
  have hle : e.le (e.add S.next b sh1 none) := Env.le_add hfr
  obtain ⟨b', sh', o', hb', hw', _, hG⟩ := h.obj i o hi
  rw [hb] at hb'; cases hb'
  have hbl : b < w1.heap.size := by rw [hsz]; exact h.bnd _ _ _ hb
  have hnl : ∀ j o2 s2, (dropObj S i).heap.get j = some o2 → e.blk j ≠ some (b, s2) := fun j o2 s2 hj hbj => by
    by_cases hji : j = i
    · subst hji; simp only [dropObj] at hj; rw [PT.get_set_same] at hj; cases hj
    · simp only [dropObj] at hj; rw [PT.get_set_other _ _ _ _ hji] at hj; exact hji (h.inj j i _ _ b s2 sh hj hi hbj hb)
  have hget : ∀ j o2, (addObj (dropObj S i) o1).heap.get j = some o2 → (j = S.next ∧ o2 = o1) ∨ (j ≠ S.next ∧ (dropObj S i).heap.get j = some o2) := fun j o2 hj => by
    by_cases hin : j = S.next
    · subst hin; simp only [addObj, dropObj] at hj; rw [PT.get_set_same] at hj; cases hj; exact .inl ⟨rfl, rfl⟩
    · simp only [addObj] at hj; rw [PT.get_set_other _ _ _ _ (by simpa [dropObj] using hin)] at hj; exact .inr ⟨hin, hj⟩
  have hblk : ∀ j, j ≠ S.next → (e.add S.next b sh1 none).blk j = e.blk j := fun j hj => by simp [Env.add, hj]
  have hself : (e.add S.next b sh1 none).blk S.next = some (b, sh1) := by simp [Env.add]
  have hsz' : ∀ c, (e.add S.next b sh1 none).sz c = e.sz c := fun c => by
    simp only [Env.add]; split
    · cases e.sz c <;> rfl
    · rfl
  refine ⟨⟨?_, ?_, ?_, ?_, ?_, ?_, ?_, ?_, ?_, hd.rel.gsz⟩, hle, hr.1, hr.2.1, hr.2.2, by omega, hd.keep, ?_, by simp [addObj, dropObj], fun i hi hb => by rw [hblk i (by omega)]; exact hb⟩
  · intro j hj
    have : Nat.succ S.next ≤ j := hj
    rw [hblk j (by omega)]; exact h.fresh j (by omega)
  · intro j hj
    have := h.next
    simp only [addObj]
    rw [PT.get_set_other _ _ _ _ (by simp [dropObj]; omega)]; exact hd.rel.low j hj
  · have := h.next; simp only [addObj, dropObj]; omega
  · intro j o2 hj
    rcases hget j o2 hj with ⟨rfl, rfl⟩ | ⟨hjn, hj⟩
    · exact ⟨b, sh1, ob1, hself, hw1, ho, hG⟩
    · obtain ⟨c, s2, o3, h1, h2, h3, h4⟩ := hd.rel.obj j o2 hj
      exact ⟨c, s2, o3, by rw [hblk j hjn]; exact h1, h2, h3.mono hle, h4⟩
  · intro j k o2 o3 c s2 s3 hj hk hbj hbk
    rcases hget j o2 hj with ⟨hj1, _⟩ | ⟨hjn, hj2⟩ <;> rcases hget k o3 hk with ⟨hk1, _⟩ | ⟨hkn, hk2⟩
    · rw [hj1, hk1]
    · rw [hj1, hself] at hbj; cases hbj; rw [hblk k hkn] at hbk; exact absurd hbk (hnl k o3 _ hk2)
    · rw [hk1, hself] at hbk; cases hbk; rw [hblk j hjn] at hbj; exact absurd hbj (hnl j o2 _ hj2)
    · rw [hblk j hjn] at hbj; rw [hblk k hkn] at hbk; exact hd.rel.inj j k o2 o3 c s2 s3 hj2 hk2 hbj hbk
  · intro c n hc; rw [hsz'] at hc; exact hd.rel.size c n hc
  · intro j c s2 hj
    by_cases hjn : j = S.next
    · subst hjn; rw [hself] at hj; cases hj; exact hbl
    · rw [hblk j hjn] at hj; exact hd.rel.bnd j c s2 hj
  · intro g hg
    rw [hblk g (by have := h.next; omega)]; exact h.glob g hg
  · intro g l hg hl
    obtain ⟨c, el, fz, hc, hv⟩ := hd.rel.gval g l hg hl
    exact ⟨c, el, fz, hc, hv⟩
  · rintro c hc ⟨j, o2, s2, hj, hbj⟩
    rcases hget j o2 hj with ⟨rfl, rfl⟩ | ⟨hjn, hj⟩
    · rw [hself] at hbj; cases hbj; exact ⟨i, o, sh, hi, hb⟩
    · exact hd.live c hc ⟨j, o2, s2, hj, by rw [hblk j hjn] at hbj; exact hbj⟩
end Go.X
