import Derived.Test.YtaknejhfphalaaaGreatDoorXDraw7
/-
  Part twenty-eight: calls proved by themselves, from an empty heap; what they hand back is moved to where the heap ends.
-/
namespace Go.X
open Go
variable {x : Cx}

/-! a value of which another one is, its blocks renamed -/
inductive RV (rr : Nat → Nat → Prop) : Value → Value → Prop
  | any (v : Value) : RV rr unk v
  | ground (v : Value) (d : Nat) (h : ground d v = true) : RV rr v v
  | ptr (i j off : Nat) (h : rr i j) : RV rr (.pointer (some ⟨i, off, none⟩)) (.pointer (some ⟨j, off, none⟩))
  | slice (i j off n k : Nat) (h : rr i j) : RV rr (.slice (some ⟨i, off, none⟩) n k) (.slice (some ⟨j, off, none⟩) n k)
  | map (i j : Nat) (h : rr i j) : RV rr (.map (some i)) (.map (some j))
  | func (f : FuncId) (a a' c c' : Array Value) (h1 : a.size = a'.size) (h2 : ∀ (i : Nat) v v', a[i]? = some v → a'[i]? = some v' → RV rr v v')
      (h3 : c.size = c'.size) (h4 : ∀ (i : Nat) v v', c[i]? = some v → c'[i]? = some v' → RV rr v v') : RV rr (.func (.func f) a c) (.func (.func f) a' c')
  | agg (c c' : Array Value) (h3 : c.size = c'.size) (h4 : ∀ (i : Nat) v v', c[i]? = some v → c'[i]? = some v' → RV rr v v') : RV rr (.agg c) (.agg c')
  | tuple (c c' : Array Value) (h3 : c.size = c'.size) (h4 : ∀ (i : Nat) v v', c[i]? = some v → c'[i]? = some v' → RV rr v v') : RV rr (.tuple c) (.tuple c')
  | iface (t : TypeId) (v v' : Value) (h : RV rr v v') : RV rr (.iface t v) (.iface t v')

structure Rn (rr : Nat → Nat → Prop) (e1 e' : Env) : Prop where
  blk : ∀ i j y, rr i j → e1.blk j = some y → e'.blk i = some y
  sz : ∀ b n, e1.sz b = some n → e'.sz b = some n

theorem all2_at {R : Value → Value → Prop} {a a' : Array Value} (h : All2 R a.toList a'.toList) : a.size = a'.size ∧ ∀ (i : Nat) v v', a[i]? = some v → a'[i]? = some v' → R v v' := by
  refine ⟨by have := h.length; simpa using this, fun i v v' hv hv' => ?_⟩
  obtain ⟨u, h1, h2⟩ := h.get (i := i) (a := v) (by rw [Array.getElem?_toList]; exact hv)
  rw [Array.getElem?_toList, hv'] at h1
  cases h1; exact h2
theorem RV.vr {rr : Nat → Nat → Prop} {e1 e' : Env} (hr : Rn rr e1 e') {u v : Value} (h : RV rr u v) : ∀ v', VR e1 v v' → VR e' u v' := by
  have row : ∀ {a a' : Array Value} {d : Array Value}, a.size = a'.size → (∀ (i : Nat) v v', a[i]? = some v → a'[i]? = some v' → ∀ v'', VR e1 v' v'' → VR e' v v'') → All2 (VR e1) a'.toList d.toList →
      a.size = d.size ∧ ∀ (i : Nat) v v', a[i]? = some v → d[i]? = some v' → VR e' v v' := fun {a a' d} h1 ih hd => by
    obtain ⟨g1, g2⟩ := all2_at hd
    refine ⟨h1.trans g1, fun i v v'' hv hd => ?_⟩
    have hlt : i < a'.size := by rw [← h1]; exact (Array.getElem?_eq_some_iff.1 hv).1
    have e : a'[i]? = some a'[i] := by simp [hlt]
    exact ih i v _ hv e _ (g2 i _ _ e hd)
  induction h with
  | any v => intro v' _; exact .any v'
  | ground v d h => intro v' hv; rw [ground_eq hv d h]; exact .ground v d h
  | ptr i j off h =>
    intro v' hv
    obtain ⟨b, sh, h1, _, rfl⟩ := VR.ptr_inv hv
    exact .ptr i off b sh (hr.blk _ _ _ h h1)
  | slice i j off n k h =>
    intro v' hv
    cases hv with
    | ground _ d h => cases d <;> simp [Go.X.ground] at h
    | slice _ _ _ _ cc b sh size h1 hn hm hs hrr => exact .slice i off n k cc b sh size (hr.blk _ _ _ h h1) hn hm (hr.sz _ _ hs) hrr
    | slice0 _ _ _ cc b sh off' size h1 hm hs ho hrr => exact .slice0 i off k cc b sh off' size (hr.blk _ _ _ h h1) hm (hr.sz _ _ hs) ho hrr
  | map i j h =>
    intro v' hv
    obtain ⟨b, sh, h1, rfl⟩ := VR.map_inv hv
    exact .map i b sh (hr.blk _ _ _ h h1)
  | func f a a' c c' h1 _ h3 _ ih1 ih2 =>
    intro v' hv
    obtain ⟨d1, d2, rfl, g1, g2⟩ := VR.func_inv hv
    obtain ⟨k1, k2⟩ := row h1 ih1 g1
    obtain ⟨k3, k4⟩ := row h3 ih2 g2
    exact .func f a d1 c d2 k1 k2 k3 k4
  | agg c c' h3 _ ih =>
    intro v' hv
    obtain ⟨d, rfl, g⟩ := VR.agg_inv hv
    obtain ⟨k1, k2⟩ := row h3 ih g
    exact .agg c d k1 k2
  | tuple c c' h3 _ ih =>
    intro v' hv
    obtain ⟨d, rfl, g⟩ := VR.tuple_inv hv
    obtain ⟨k1, k2⟩ := row h3 ih g
    exact .tuple c d k1 k2
  | iface t v v1 _ ih =>
    intro v' hv
    obtain ⟨d, rfl, g⟩ := VR.iface_inv hv
    exact .iface t v d (ih d g)

/-! an object of which another one is, its blocks renamed -/
inductive RO (rr : Nat → Nat → Prop) : AObj → AObj → Prop
  | cells (c d : List Value) (el : TypeId) (wh : Bool) (h : All2 (RV rr) c d) : RO rr (.cells c el wh) (.cells d el wh)
  | deferred : RO rr .deferred .deferred
  | map (es es1 : List MapEntry) (ck : Nat) (h : All2 (fun m m' : MapEntry => m'.key = m.key ∧ m'.born = m.born ∧ RV rr m.val m'.val) es es1) : RO rr (.map es ck) (.map es1 ck)
theorem All2.comp {α β γ : Type} {R : α → β → Prop} {S : β → γ → Prop} {T : α → γ → Prop} (hT : ∀ a b c, R a b → S b c → T a c) : ∀ {l : List α} {m : List β} {n : List γ}, All2 R l m → All2 S m n → All2 T l n
  | [], [], [], _, _ => trivial
  | _ :: _, _ :: _, _ :: _, h, k => ⟨hT _ _ _ h.1 k.1, All2.comp hT h.2 k.2⟩
  | [], _ :: _, _, h, _ => h.elim
  | _ :: _, [], _, h, _ => h.elim
  | [], [], _ :: _, _, h => h.elim
  | _ :: _, _ :: _, [], _, h => h.elim
theorem RO.objR {rr : Nat → Nat → Prop} {e1 e' : Env} (hr : Rn rr e1 e') {o p : AObj} (h : RO rr o p) {ob : Obj} {sh : Nat} (hp : ObjR e1 p ob sh) : ObjR e' o ob sh := by
  cases h with
  | cells c d el wh h =>
    cases hp with
    | cells _ _ _ cs fz sh hc hf hw hz =>
      have hlen := h.length
      refine .cells c el wh cs fz sh (fun k v hk => ?_) hf (fun hh => by rw [hlen]; exact hw hh) (by rw [hlen]; exact hz)
      obtain ⟨u, h1, h2⟩ := h.get hk
      obtain ⟨v', h3, h4⟩ := hc k u h1
      exact ⟨v', h3, h2.vr hr v' h4⟩
  | deferred => cases hp with
    | deferred => exact .deferred
  | map es es1 ck h =>
    cases hp with
    | map _ es' _ h' => exact .map es es' ck (All2.comp (fun a b c h1 h2 => ⟨h2.1.trans h1.1, h2.2.1.trans h1.2.1, h1.2.2.vr hr _ h2.2.2⟩) h h')

/-! putting the objects down -/
theorem putObjs_get : ∀ (l : List (Option AObj)) (i : Nat) (t : PT AObj) (j : Nat), (putObjs l i t).get j = if i ≤ j ∧ j < i + l.length then (l[j - i]?).getD none else t.get j
  | [], i, t, j => by
    have : ¬ (i ≤ j ∧ j < i + ([] : List (Option AObj)).length) := by simp
    rw [if_neg this]; rfl
  | o :: l, i, t, j => by
    have hd : putObjs (o :: l) i t = putObjs l (Nat.succ i) (t.set i o) := rfl
    rw [hd, putObjs_get l]
    by_cases h1 : Nat.succ i ≤ j ∧ j < Nat.succ i + l.length
    · rw [if_pos h1, if_pos (by simp; omega)]
      have : j - i = (j - Nat.succ i) + 1 := by omega
      rw [this]; simp
    · rw [if_neg h1]
      by_cases h2 : j = i
      · subst h2
        rw [PT.get_set_same, if_pos (by simp)]
        simp
      · rw [PT.get_set_other _ _ _ _ h2, if_neg (by simp; omega)]

/-- THE MOVE: what was made from an empty heap, seen from the heap S. -/
theorem Stp.lift {e e0 e1 : Env} {S S1 : AS} {w w1 : World} (h : Rel x e S w) (he0 : e0.sz = e.sz) (hs : Stp x e0 { heap := .leaf, next := x.G } w e1 S1 w1) {rr : Nat → Nat → Prop} {r : Nat → Nat} {os : List (Option AObj)}
    (hos : ∀ t o, os[t]? = some (some o) → ∃ p, S1.heap.get (r (S.next + t)) = some p ∧ RO rr o p) (hinj : ∀ t t', t < os.length → t' < os.length → r (S.next + t) = r (S.next + t') → t = t')
    (hrr : ∀ i j, rr i j → (i < x.G ∧ j = i) ∨ (S.next ≤ i ∧ j = r i ∧ (i < S.next + os.length ∨ S1.next ≤ j))) :
    ∃ e', Stp x e S w e' { heap := putObjs os S.next S.heap, next := S.next + os.length } w1 ∧ Rn rr e1 e' := by
  let e' : Env := { blk := fun i => if i < S.next then e.blk i else if i < S.next + os.length then e1.blk (r i) else none, sz := e1.sz }
  have hlow : ∀ i, i < S.next → e'.blk i = e.blk i := fun i hi => by simp only [e', if_pos hi]
  have hmid : ∀ i, S.next ≤ i → i < S.next + os.length → e'.blk i = e1.blk (r i) := fun i h1 h2 => by simp only [e', if_neg (Nat.not_lt.2 h1), if_pos h2]
  have hhigh : ∀ i, S.next + os.length ≤ i → e'.blk i = none := fun i hi => by
    have h1 : ¬ i < S.next := by omega
    have h2 : ¬ i < S.next + os.length := by omega
    simp only [e', if_neg h1, if_neg h2]
  have noLive : ∀ b, ¬ liesIn { heap := .leaf, next := x.G } e0 b := by
    rintro b ⟨i, o, sh, hi, _⟩
    have : PT.get (PT.leaf : PT AObj) i = some o := hi
    cases this
  have hkeep : ∀ b, b < w.heap.size → w1.heap[b]? = w.heap[b]? := fun b hb => hs.keep b hb (noLive b)
  have hnew : ∀ b, liesIn S1 e1 b → w.heap.size ≤ b := fun b hl => by
    rcases Nat.lt_or_ge b w.heap.size with hlt | hge
    · exact absurd (hs.live b hlt hl) (noLive b)
    · exact hge
  have hblt : ∀ {b : Nat} {o' : Obj}, w.heap[b]? = some o' → b < w.heap.size := fun hb => (Array.getElem?_eq_some_iff.1 hb).1
  have hrn : Rn rr e1 e' := by
    refine ⟨fun i j y hij hj => ?_, fun b n hb => hb⟩
    rcases hrr i j hij with ⟨h1, rfl⟩ | ⟨h1, rfl, h2⟩
    · rw [hlow _ (by have := h.next; omega), h.glob _ h1]
      rw [hs.rel.glob _ h1] at hj; exact hj
    · rcases h2 with h2 | h2
      · rw [hmid i h1 h2]; exact hj
      · rw [hs.rel.fresh _ h2] at hj; cases hj
  have hle : e.le e' := by
    refine ⟨fun i y hi => ?_, fun b n hb => hs.le.sz b n (by rw [he0]; exact hb)⟩
    have hlt : i < S.next := by
      rcases Nat.lt_or_ge i S.next with hlt | hge
      · exact hlt
      · rw [h.fresh i hge] at hi; cases hi
    rw [hlow i hlt]; exact hi
  have hget : ∀ i o, (putObjs os S.next S.heap).get i = some o → (i < S.next ∧ S.heap.get i = some o) ∨ (S.next ≤ i ∧ i < S.next + os.length ∧ os[i - S.next]? = some (some o)) := fun i o hi => by
    rw [putObjs_get] at hi
    by_cases hc : S.next ≤ i ∧ i < S.next + os.length
    · rw [if_pos hc] at hi
      refine .inr ⟨hc.1, hc.2, ?_⟩
      cases hq : os[i - S.next]? with
      | none => rw [hq] at hi; cases hi
      | some q => rw [hq] at hi; simp only [Option.getD_some] at hi; rw [hi]
    · rw [if_neg hc] at hi
      obtain ⟨b, sh, _, h1, _⟩ := h.obj i o hi
      rcases Nat.lt_or_ge i S.next with hlt | hge
      · exact .inl ⟨hlt, hi⟩
      · rw [h.fresh i hge] at h1; cases h1
  have hnewobj : ∀ i o, S.next ≤ i → i < S.next + os.length → os[i - S.next]? = some (some o) → ∃ p b sh o', S1.heap.get (r i) = some p ∧ e1.blk (r i) = some (b, sh) ∧ w1.heap[b]? = some o' ∧ ObjR e' o o' sh ∧ x.G ≤ b ∧ w.heap.size ≤ b := fun i o h1 h2 ho => by
    obtain ⟨p, hp, hro⟩ := hos _ o ho
    rw [show S.next + (i - S.next) = i by omega] at hp
    obtain ⟨b, sh, o', g1, g2, g3, g4⟩ := hs.rel.obj _ p hp
    exact ⟨p, b, sh, o', hp, g1, g2, hro.objR hrn g3, g4, hnew b ⟨_, p, sh, hp, g1⟩⟩
  refine ⟨e', ⟨⟨fun i hi => hhigh i hi, ?_, ?_, ?_, ?_, ?_, ?_, ?_, ?_, hs.rel.gsz⟩, hle, hs.os, hs.tape, hs.output, hs.grow, fun b hb _ => hkeep b hb, ?_, ?_, ?_⟩, hrn⟩
  · intro i hi
    show (putObjs os S.next S.heap).get i = none
    have := h.next
    rw [putObjs_get, if_neg (by omega)]; exact h.low i hi
  · have := h.next; show x.G ≤ S.next + os.length; omega
  · intro i o hi
    rcases hget i o hi with ⟨h1, h2⟩ | ⟨h1, h2, h3⟩
    · obtain ⟨b, sh, o', g1, g2, g3, g4⟩ := h.obj i o h2
      exact ⟨b, sh, o', by rw [hlow i h1]; exact g1, by rw [hkeep b (hblt g2)]; exact g2, g3.mono hle, g4⟩
    · obtain ⟨p, b, sh, o', _, g1, g2, g3, g4, _⟩ := hnewobj i o h1 h2 h3
      exact ⟨b, sh, o', by rw [hmid i h1 h2]; exact g1, g2, g3, g4⟩
  · intro i j o o' b sh sh' hi hj hbi hbj
    rcases hget i o hi with ⟨h1, h2⟩ | ⟨h1, h2, h3⟩ <;> rcases hget j o' hj with ⟨k1, k2⟩ | ⟨k1, k2, k3⟩
    · rw [hlow i h1] at hbi; rw [hlow j k1] at hbj
      exact h.inj i j o o' b sh sh' h2 k2 hbi hbj
    · rw [hlow i h1] at hbi
      obtain ⟨p, b2, _, _, _, g1, _, _, _, g5⟩ := hnewobj j o' k1 k2 k3
      rw [hmid j k1 k2, g1] at hbj; cases hbj
      have := h.bnd _ _ _ hbi; omega
    · rw [hlow j k1] at hbj
      obtain ⟨p, b2, _, _, _, g1, _, _, _, g5⟩ := hnewobj i o h1 h2 h3
      rw [hmid i h1 h2, g1] at hbi; cases hbi
      have := h.bnd _ _ _ hbj; omega
    · obtain ⟨p, b2, _, _, p1, g1, _⟩ := hnewobj i o h1 h2 h3
      obtain ⟨q, c2, _, _, q1, g2, _⟩ := hnewobj j o' k1 k2 k3
      rw [hmid i h1 h2] at hbi; rw [hmid j k1 k2] at hbj
      have heq := hs.rel.inj _ _ p q b sh sh' p1 q1 hbi hbj
      have := hinj (i - S.next) (j - S.next) (by omega) (by omega) (by rw [show S.next + (i - S.next) = i by omega, show S.next + (j - S.next) = j by omega]; exact heq)
      omega
  · intro b n hb; exact hs.rel.size b n hb
  · intro i b sh hb
    rcases Nat.lt_or_ge i S.next with hlt | hge
    · rw [hlow i hlt] at hb
      have := h.bnd _ _ _ hb
      have := hs.grow; omega
    · rcases Nat.lt_or_ge i (S.next + os.length) with h2 | h2
      · rw [hmid i hge h2] at hb; exact hs.rel.bnd _ _ _ hb
      · rw [hhigh i h2] at hb; cases hb
  · intro g hg
    rw [hlow g (by have := h.next; omega)]; exact h.glob g hg
  · exact hs.rel.gval
  · rintro b hb ⟨i, o, sh, hi, hbi⟩
    rcases hget i o hi with ⟨h1, h2⟩ | ⟨h1, h2, h3⟩
    · rw [hlow i h1] at hbi; exact ⟨i, o, sh, h2, hbi⟩
    · obtain ⟨p, b2, _, _, _, g1, _, _, _, g5⟩ := hnewobj i o h1 h2 h3
      rw [hmid i h1 h2, g1] at hbi; cases hbi; omega
  · show S.next ≤ S.next + os.length; omega
  · intro i hi hb
    rw [hlow i hi]; exact hb
/-- the empty heap, of whatever world -/
theorem Rel.empty {e : Env} {S : AS} {w : World} (h : Rel x e S w) : Rel x { blk := fun i => if i < x.G then some (i, 0) else none, sz := e.sz } { heap := .leaf, next := x.G } w := by
  refine ⟨fun i hi => ?_, fun _ _ => rfl, Nat.le_refl _, fun i o hi => ?_, fun i j o o' b sh sh' hi => ?_, h.size, fun i b sh hb => ?_, fun g hg => ?_, h.gval, h.gsz⟩
  · have hi : x.G ≤ i := hi
    have : ¬ i < x.G := by omega
    simp only [if_neg this]
  · have hi : PT.get (PT.leaf : PT AObj) i = some o := hi
    cases hi
  · have hi : PT.get (PT.leaf : PT AObj) i = some o := hi
    cases hi
  · simp only at hb
    split at hb
    · cases hb; have := h.gsz; omega
    · cases hb
  · simp only [if_pos hg]
end Go.X
/-
  Part twenty-nine: the entries of a hook.
-/
namespace Go.X
open Go
variable {x : Cx}

/-! renaming, checked -/
theorem rnI_ok {r : Nat → Option Nat} {i j : Nat} (h : rnI r i j = true) : r i = some j := by
  unfold rnI at h
  split at h
  · rename_i k hk; rw [hk, beq_iff.1 h]
  · cases h
theorem rnA_ok {r : Nat → Option Nat} {a b : Addr} (h : rnA r a b = true) : ∃ i j off, a = ⟨i, off, none⟩ ∧ b = ⟨j, off, none⟩ ∧ r i = some j := by
  unfold rnA at h
  split at h
  · cases h
  · rename_i h1
    split at h
    · cases h
    · rename_i h2
      split at h
      · rename_i h3
        obtain ⟨i, o, sa⟩ := a
        obtain ⟨j, p, sb⟩ := b
        simp only at h1 h2 h3 h
        subst h1; subst h2
        have := beq_iff.1 h
        subst this
        exact ⟨i, j, o, rfl, rfl, rnI_ok h3⟩
      · cases h
theorem allEq_all2 {p : Value → Value → Bool} {R : Value → Value → Prop} (hp : ∀ v u, p v u = true → R v u) : ∀ (l m : List Value), allEq p l m = true → All2 R l m
  | [], [], _ => trivial
  | [], _ :: _, h => by cases h
  | a :: l, [], h => by cases h
  | a :: l, b :: m, h => by
    change (match p a b with
      | true => allEq p l m
      | false => false) = true at h
    split at h
    · rename_i h1; exact ⟨hp a b h1, allEq_all2 hp l m h⟩
    · cases h
theorem rnArr {p : Value → Value → Bool} {R : Value → Value → Prop} (hp : ∀ v u, p v u = true → R v u) {a b : Array Value} (h : allEq p a.toList b.toList = true) :
    a.size = b.size ∧ ∀ (i : Nat) v v', a[i]? = some v → b[i]? = some v' → R v v' := all2_at (allEq_all2 hp _ _ h)
theorem rnStep_ok {r : Nat → Option Nat} {rec : Value → Value → Bool} (hrec : ∀ u v, rec u v = true → RV (fun i j => r i = some j) u v) {u v : Value} (h : rnStep r rec u v = true) : RV (fun i j => r i = some j) u v := by
  unfold rnStep at h
  split at h
  · split at h
    · obtain ⟨i, j, off, rfl, rfl, hr⟩ := rnA_ok h
      exact .ptr i j off hr
    · cases h
  · split at h
    · split at h
      · rename_i h1
        split at h
        · rename_i h2
          obtain ⟨i, j, off, rfl, rfl, hr⟩ := rnA_ok h
          rw [beq_iff.1 h1, beq_iff.1 h2]
          exact .slice i j off _ _ hr
        · cases h
      · cases h
    · cases h
  · split at h
    · exact .map _ _ (rnI_ok h)
    · cases h
  · split at h
    · split at h
      · rename_i h1
        split at h
        · rename_i h2
          obtain ⟨a1, a2⟩ := rnArr hrec h2
          obtain ⟨b1, b2⟩ := rnArr hrec h
          rw [beq_iff.1 h1]
          exact .func _ _ _ _ _ a1 a2 b1 b2
        · cases h
      · cases h
    · cases h
  · split at h
    · split at h
      · rename_i h1
        rw [beq_iff.1 h1]
        exact .iface _ _ _ (hrec _ _ h)
      · cases h
    · cases h
  · split at h
    · obtain ⟨b1, b2⟩ := rnArr hrec h
      exact .agg _ _ b1 b2
    · cases h
  · split at h
    · obtain ⟨b1, b2⟩ := rnArr hrec h
      exact .tuple _ _ b1 b2
    · cases h
  · exact .any _
  · split at h
    · rename_i hg
      obtain ⟨d, hd⟩ := ground6_ok hg
      rw [veq_ok _ _ _ h]
      rw [veq_ok _ _ _ h] at hd
      exact .ground _ d hd
    · cases h
theorem rnV_ok {r : Nat → Option Nat} : ∀ (n : Nat) (u v : Value), rnV r n u v = true → RV (fun i j => r i = some j) u v
  | 0, _, _, h => by cases h
  | n + 1, u, v, h => rnStep_ok (fun u v h => rnV_ok n u v h) h
theorem rnEs_ok {p : Value → Value → Bool} {R : Value → Value → Prop} (hp : ∀ v u, p v u = true → R v u) : ∀ (l m : List MapEntry), rnEs p l m = true → All2 (fun m m' : MapEntry => m'.key = m.key ∧ m'.born = m.born ∧ R m.val m'.val) l m
  | [], [], _ => trivial
  | [], _ :: _, h => by cases h
  | a :: l, [], h => by cases h
  | a :: l, b :: m, h => by
    change (match veq 4 a.key b.key with
      | true => match Nat.beq a.born b.born with
        | true => match p a.val b.val with
          | true => rnEs p l m
          | false => false
        | false => false
      | false => false) = true at h
    split at h
    · rename_i h1
      split at h
      · rename_i h2
        split at h
        · rename_i h3
          exact ⟨⟨(veq_ok _ _ _ h1).symm, (beq_iff.1 h2).symm, hp _ _ h3⟩, rnEs_ok hp l m h⟩
        · cases h
      · cases h
    · cases h
theorem rnO_ok {r : Nat → Option Nat} {o p : AObj} (h : rnO r o p = true) : RO (fun i j => r i = some j) o p := by
  unfold rnO at h
  split at h
  · split at h
    · split at h
      · rename_i h1
        split at h
        · rename_i h2
          rw [beq_iff.1 h1, eq_of_beq h2]
          exact .cells _ _ _ _ (allEq_all2 (fun u v h => rnV_ok 9 u v h) _ _ h)
        · cases h
      · cases h
    · cases h
  · split at h
    · split at h
      · rename_i h1
        rw [beq_iff.1 h1]
        exact .map _ _ _ (rnEs_ok (fun u v h => rnV_ok 9 u v h) _ _ h)
      · cases h
    · cases h
  · split at h
    · exact .deferred
    · cases h
  · cases h
theorem rnOs_ok {r : Nat → Option Nat} {t : PT AObj} : ∀ (os : List AObj) (ro : List Nat), rnOs r t os ro = true → os.length = ro.length ∧ ∀ (k : Nat) o, os[k]? = some o → ∃ j p, ro[k]? = some j ∧ t.get j = some p ∧ RO (fun i j => r i = some j) o p
  | [], [], _ => ⟨rfl, fun k o h => by simp at h⟩
  | [], _ :: _, h => by cases h
  | a :: l, [], h => by cases h
  | a :: l, b :: m, h => by
    change (match t.get b with
      | some p => match rnO r a p with
        | true => rnOs r t l m
        | false => false
      | none => false) = true at h
    split at h
    · rename_i p hp
      split at h
      · rename_i h1
        obtain ⟨k1, k2⟩ := rnOs_ok l m h
        refine ⟨by simp [k1], fun k o hk => ?_⟩
        cases k with
        | zero => simp at hk; subst hk; exact ⟨b, p, by simp, hp, rnO_ok h1⟩
        | succ k =>
          rw [List.getElem?_cons_succ] at hk
          obtain ⟨j, q, h1, h2, h3⟩ := k2 k o hk
          exact ⟨j, q, by rw [List.getElem?_cons_succ]; exact h1, h2, h3⟩
      · cases h
    · cases h
theorem notIn_ok {i : Nat} : ∀ {l : List Nat}, notIn i l = true → i ∉ l
  | [], _ => by simp
  | j :: l, h => by
    change (match Nat.beq i j with
      | true => false
      | false => notIn i l) = true at h
    cases hb : Nat.beq i j with
    | true => rw [hb] at h; cases h
    | false =>
      rw [hb] at h
      have := notIn_ok (l := l) h
      intro hm
      rcases List.mem_cons.1 hm with hh | hh
      · rw [beq_iff.2 hh] at hb; cases hb
      · exact this hh
theorem unlike_ok : ∀ {l : List Nat}, unlike l = true → l.Nodup
  | [], _ => List.nodup_nil
  | i :: l, h => by
    change (match notIn i l with
      | true => unlike l
      | false => false) = true at h
    split at h
    · rename_i h1; exact List.nodup_cons.2 ⟨notIn_ok h1, unlike_ok h⟩
    · cases h

end Go.X
