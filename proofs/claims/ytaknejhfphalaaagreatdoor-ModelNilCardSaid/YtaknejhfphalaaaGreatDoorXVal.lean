import Derived.CallsIn
import Derived.RangeFuncIn
/-
  An executor of the model's code over a heap of its own, and why it may be believed: part one: values, heaps, and how they stand to the model's.
  A value of the executor is a value of the model whose blocks are numbers of the executor's own; the last number of a slice that is not nil is not its capacity (that is not known), but how many cells an element has.
-/
namespace Go.X
open Go

/-! trees of numbers -/
inductive PT (α : Type) where
  | leaf
  | node (l : PT α) (x : Option α) (r : PT α)

/-- a number's place: 0 the root; odd numbers to the left, even ones to the right. (By the recursors themselves: the kernel is quicker at them.) -/
noncomputable def PT.get {α : Type} (t : PT α) : Nat → Option α :=
  PT.rec (motive := fun _ => Nat → Option α) (fun _ => none)
    (fun _ x _ ihl ihr i => Bool.rec (Bool.rec (ihr (Nat.sub (Nat.shiftRight i 1) 1)) (ihl (Nat.shiftRight i 1)) (Nat.beq (Nat.land i 1) 1)) x (Nat.beq i 0)) t
/-- a tree with one number; the first argument is more than the number -/
noncomputable def PT.one {α : Type} (n : Nat) : Nat → Option α → PT α :=
  Nat.rec (motive := fun _ => Nat → Option α → PT α) (fun _ _ => .leaf)
    (fun _ ih i v => Bool.rec (Bool.rec (.node .leaf none (ih (Nat.sub (Nat.shiftRight i 1) 1) v)) (.node (ih (Nat.shiftRight i 1) v) none .leaf) (Nat.beq (Nat.land i 1) 1)) (.node .leaf v .leaf) (Nat.beq i 0)) n
noncomputable def PT.set {α : Type} (t : PT α) : Nat → Option α → PT α :=
  PT.rec (motive := fun _ => Nat → Option α → PT α) (fun i v => PT.one (Nat.succ i) i v)
    (fun l x r ihl ihr i v => Bool.rec (Bool.rec (.node l x (ihr (Nat.sub (Nat.shiftRight i 1) 1) v)) (.node (ihl (Nat.shiftRight i 1) v) x r) (Nat.beq (Nat.land i 1) 1)) (.node l v r) (Nat.beq i 0)) t

theorem half (i : Nat) : Nat.shiftRight i 1 = i / 2 := rfl
theorem odd (i : Nat) : Nat.land i 1 = i % 2 := Nat.and_one_is_mod i
theorem beq0 {i : Nat} (h : ¬ i = 0) : Nat.beq i 0 = false := by cases i <;> first | exact absurd rfl h | rfl
theorem PT.get_node {α : Type} (l : PT α) (x : Option α) (r : PT α) (i : Nat) :
    PT.get (.node l x r) i = if i = 0 then x else if i % 2 = 1 then l.get (i / 2) else r.get (i / 2 - 1) := by
  show (Bool.rec (motive := fun _ => Option α) (Bool.rec (motive := fun _ => Option α) (r.get (Nat.sub (Nat.shiftRight i 1) 1)) (l.get (Nat.shiftRight i 1)) (Nat.beq (Nat.land i 1) 1)) x (Nat.beq i 0) : Option α) = _
  rw [half, odd]
  by_cases h : i = 0
  · subst h; rfl
  · rw [beq0 h, if_neg h]
    by_cases k : i % 2 = 1
    · rw [k]; simp
    · have : i % 2 = 0 := by omega
      rw [this, if_neg (by omega)]; rfl
theorem PT.set_node {α : Type} (l : PT α) (x : Option α) (r : PT α) (i : Nat) (v : Option α) :
    PT.set (.node l x r) i v = if i = 0 then .node l v r else if i % 2 = 1 then .node (l.set (i / 2) v) x r else .node l x (r.set (i / 2 - 1) v) := by
  show (Bool.rec (motive := fun _ => PT α) (Bool.rec (motive := fun _ => PT α) (.node l x (r.set (Nat.sub (Nat.shiftRight i 1) 1) v)) (.node (l.set (Nat.shiftRight i 1) v) x r) (Nat.beq (Nat.land i 1) 1)) (.node l v r) (Nat.beq i 0) : PT α) = _
  rw [half, odd]
  by_cases h : i = 0
  · subst h; rfl
  · rw [beq0 h, if_neg h]
    by_cases k : i % 2 = 1
    · rw [k]; simp
    · have : i % 2 = 0 := by omega
      rw [this, if_neg (by omega)]; rfl
theorem PT.one_succ {α : Type} (n i : Nat) (v : Option α) :
    PT.one (n + 1) i v = if i = 0 then .node .leaf v .leaf else if i % 2 = 1 then .node (PT.one n (i / 2) v) none .leaf else .node .leaf none (PT.one n (i / 2 - 1) v) := by
  show (Bool.rec (motive := fun _ => PT α) (Bool.rec (motive := fun _ => PT α) (.node .leaf none (PT.one n (Nat.sub (Nat.shiftRight i 1) 1) v)) (.node (PT.one n (Nat.shiftRight i 1) v) none .leaf) (Nat.beq (Nat.land i 1) 1)) (.node .leaf v .leaf) (Nat.beq i 0) : PT α) = _
  rw [half, odd]
  by_cases h : i = 0
  · subst h; rfl
  · rw [beq0 h, if_neg h]
    by_cases k : i % 2 = 1
    · rw [k]; simp
    · have : i % 2 = 0 := by omega
      rw [this, if_neg (by omega)]; rfl
theorem PT.get_one_same {α : Type} : ∀ (n i : Nat) (v : Option α), i < n → PT.get (PT.one n i v) i = v
  | 0, i, v, h => by omega
  | n + 1, i, v, h => by
    rw [PT.one_succ]
    split
    · rename_i h0; rw [PT.get_node, if_pos h0]
    · split
      · rename_i h0 h1; rw [PT.get_node, if_neg h0, if_pos h1]; exact PT.get_one_same n _ v (by omega)
      · rename_i h0 h1; rw [PT.get_node, if_neg h0, if_neg h1]; exact PT.get_one_same n _ v (by omega)
theorem PT.get_one_other {α : Type} : ∀ (n i j : Nat) (v : Option α), j ≠ i → PT.get (PT.one n i v) j = none
  | 0, i, j, v, h => rfl
  | n + 1, i, j, v, h => by
    rw [PT.one_succ]
    split
    · rename_i h0; rw [PT.get_node, if_neg (by omega)]; split <;> rfl
    · split
      · rename_i h0 h1; rw [PT.get_node]
        split
        · rfl
        · split
          · exact PT.get_one_other n _ _ v (by omega)
          · rfl
      · rename_i h0 h1; rw [PT.get_node]
        split
        · rfl
        · split
          · rfl
          · exact PT.get_one_other n _ _ v (by omega)
theorem PT.get_set_same {α : Type} : ∀ (t : PT α) (i : Nat) (v : Option α), PT.get (PT.set t i v) i = v
  | .leaf, i, v => PT.get_one_same _ i v (Nat.lt_succ_self i)
  | .node l x r, i, v => by
    rw [PT.set_node]
    split
    · rename_i h0; rw [PT.get_node, if_pos h0]
    · split
      · rename_i h0 h1; rw [PT.get_node, if_neg h0, if_pos h1]; exact PT.get_set_same l _ v
      · rename_i h0 h1; rw [PT.get_node, if_neg h0, if_neg h1]; exact PT.get_set_same r _ v
theorem PT.get_set_other {α : Type} : ∀ (t : PT α) (i j : Nat) (v : Option α), j ≠ i → PT.get (PT.set t i v) j = PT.get t j
  | .leaf, i, j, v, h => PT.get_one_other (Nat.succ i) i j v h
  | .node l x r, i, j, v, h => by
    rw [PT.set_node]
    split
    · rename_i h0; rw [PT.get_node, PT.get_node, if_neg (by omega), if_neg (by omega : ¬ j = 0)]
    · split
      · rename_i h0 h1; rw [PT.get_node, PT.get_node]
        split
        · rfl
        · split
          · exact PT.get_set_other l _ _ v (by omega)
          · rfl
      · rename_i h0 h1; rw [PT.get_node, PT.get_node]
        split
        · rfl
        · split
          · rfl
          · exact PT.get_set_other r _ _ v (by omega)

/-! lists that stand to each other element by element -/
def All2 {α β : Type} (R : α → β → Prop) : List α → List β → Prop
  | [], [] => True
  | a :: l, b :: m => R a b ∧ All2 R l m
  | _, _ => False
section
variable {α β : Type} {R : α → β → Prop}
theorem All2.length : ∀ {l : List α} {m : List β}, All2 R l m → l.length = m.length
  | [], [], _ => rfl
  | _ :: _, _ :: _, h => by simp [All2.length h.2]
  | [], _ :: _, h => h.elim
  | _ :: _, [], h => h.elim
theorem All2.get : ∀ {l : List α} {m : List β} {i : Nat} {a : α}, All2 R l m → l[i]? = some a → ∃ b, m[i]? = some b ∧ R a b
  | _ :: _, _ :: _, 0, _, h, e => by simp only [List.getElem?_cons_zero, Option.some.injEq] at e; subst e; exact ⟨_, rfl, h.1⟩
  | _ :: _, _ :: _, i + 1, _, h, e => by simp only [List.getElem?_cons_succ] at e ⊢; exact All2.get h.2 e
  | [], [], _, _, _, e => by simp at e
theorem All2.mk : ∀ {l : List α} {m : List β}, l.length = m.length → (∀ (i : Nat) a b, l[i]? = some a → m[i]? = some b → R a b) → All2 R l m
  | [], [], _, _ => trivial
  | a :: l, b :: m, hl, h => ⟨h 0 a b rfl rfl, All2.mk (by simpa using hl) fun i x y hx hy => h (i + 1) x y hx hy⟩
  | [], _ :: _, hl, _ => by simp at hl
  | _ :: _, [], hl, _ => by simp at hl
theorem All2.append : ∀ {l : List α} {m : List β} {l' : List α} {m' : List β}, All2 R l m → All2 R l' m' → All2 R (l ++ l') (m ++ m')
  | [], [], _, _, _, h => h
  | _ :: _, _ :: _, _, _, h, k => ⟨h.1, All2.append h.2 k⟩
  | [], _ :: _, _, _, h, _ => h.elim
  | _ :: _, [], _, _, h, _ => h.elim
theorem All2.take : ∀ {l : List α} {m : List β} (n : Nat), All2 R l m → All2 R (l.take n) (m.take n)
  | [], [], n, _ => by simp [All2]
  | _ :: _, _ :: _, 0, _ => trivial
  | _ :: _, _ :: _, n + 1, h => ⟨h.1, All2.take n h.2⟩
  | [], _ :: _, _, h => h.elim
  | _ :: _, [], _, h => h.elim
theorem All2.drop : ∀ {l : List α} {m : List β} (n : Nat), All2 R l m → All2 R (l.drop n) (m.drop n)
  | [], [], n, _ => by simp [All2]
  | _ :: _, _ :: _, 0, h => h
  | _ :: _, _ :: _, n + 1, h => All2.drop n h.2
  | [], _ :: _, _, h => h.elim
  | _ :: _, [], _, h => h.elim
theorem All2.set : ∀ {l : List α} {m : List β} {a : α} {b : β} (i : Nat), All2 R l m → R a b → All2 R (l.set i a) (m.set i b)
  | [], [], _, _, _, h, _ => h
  | _ :: _, _ :: _, _, _, 0, h, k => ⟨k, h.2⟩
  | _ :: _, _ :: _, _, _, i + 1, h, k => ⟨h.1, All2.set i h.2 k⟩
  | [], _ :: _, _, _, _, h, _ => h.elim
  | _ :: _, [], _, _, _, h, _ => h.elim
theorem All2.mono {R' : α → β → Prop} (hR : ∀ a b, R a b → R' a b) : ∀ {l : List α} {m : List β}, All2 R l m → All2 R' l m
  | [], [], _ => trivial
  | _ :: _, _ :: _, h => ⟨hR _ _ h.1, All2.mono hR h.2⟩
  | [], _ :: _, h => h.elim
  | _ :: _, [], h => h.elim
theorem All2.refl {R : α → α → Prop} : ∀ {l : List α}, (∀ x ∈ l, R x x) → All2 R l l
  | [], _ => trivial
  | a :: _, h => ⟨h a (.head _), All2.refl fun x hx => h x (.tail _ hx)⟩
theorem All2.map {γ : Type} {f : γ → α} {g : γ → β} : ∀ {l : List γ}, (∀ x ∈ l, R (f x) (g x)) → All2 R (l.map f) (l.map g)
  | [], _ => trivial
  | a :: _, h => ⟨h a (.head _), All2.map fun x hx => h x (.tail _ hx)⟩
end

/-! values without blocks -/
def ground : Nat → Value → Bool
  | _, .bool _ | _, .int _ _ | _, .float _ _ | _, .complex _ _ _ | _, .string _ | _, .pointer none | _, .slice none _ _ | _, .map none | _, .chan none | _, .nilFunc | _, .nilIface => true
  | d + 1, .iface _ v => ground d v
  | d + 1, .agg cs => cs.toList.all (ground d)
  | d + 1, .tuple cs => cs.toList.all (ground d)
  | d + 1, .func (.func _) f c => f.toList.all (ground d) && c.toList.all (ground d)
  | _, _ => false

/-- Where the executor's blocks lie, and how long the model's are. -/
structure Env where
  blk : Nat → Option (Nat × Nat)
  sz : Nat → Option Nat
structure Env.le (e e' : Env) : Prop where
  blk : ∀ i x, e.blk i = some x → e'.blk i = some x
  sz : ∀ b n, e.sz b = some n → e'.sz b = some n
theorem Env.le.refl (e : Env) : e.le e := ⟨fun _ _ h => h, fun _ _ h => h⟩
theorem Env.le.trans {a b c : Env} (h : a.le b) (k : b.le c) : a.le c := ⟨fun i x hx => k.blk i x (h.blk i x hx), fun i x hx => k.sz i x (h.sz i x hx)⟩

/-- what is not known -/
def unk : Value := .chan (some 0)
def isUnk : Value → Bool
  | .chan (some _) => true
  | _ => false

/-- A value of the executor, and one of the model. -/
inductive VR (e : Env) : Value → Value → Prop
  | any (v : Value) : VR e unk v
  | ground (v : Value) (d : Nat) (h : ground d v = true) : VR e v v
  | ptr (i off b sh : Nat) (h : e.blk i = some (b, sh)) : VR e (.pointer (some ⟨i, off, none⟩)) (.pointer (some ⟨b, sh + off, none⟩))
  | slice (i off n k cc b sh size : Nat) (h : e.blk i = some (b, sh)) (hn : n ≤ cc) (hm : cc ≤ maxLen) (hs : e.sz b = some size) (hr : sh + off + cc * k ≤ size) :
      VR e (.slice (some ⟨i, off, none⟩) n k) (.slice (some ⟨b, sh + off, none⟩) n cc)
  | slice0 (i off k cc b sh off' size : Nat) (h : e.blk i = some (b, sh)) (hm : cc ≤ maxLen) (hs : e.sz b = some size) (ho : sh ≤ off') (hr : off' + cc * k ≤ size) :
      VR e (.slice (some ⟨i, off, none⟩) 0 k) (.slice (some ⟨b, off', none⟩) 0 cc)
  | map (i b sh : Nat) (h : e.blk i = some (b, sh)) : VR e (.map (some i)) (.map (some b))
  | func (f : FuncId) (x x' c c' : Array Value) (h1 : x.size = x'.size) (h2 : ∀ (i : Nat) v v', x[i]? = some v → x'[i]? = some v' → VR e v v')
      (h3 : c.size = c'.size) (h4 : ∀ (i : Nat) v v', c[i]? = some v → c'[i]? = some v' → VR e v v') : VR e (.func (.func f) x c) (.func (.func f) x' c')
  | yield (l b sh : Nat) (h : e.blk l = some (b, sh)) : VR e (.func (.yield l) #[] #[]) (.func (.yield b) #[] #[])
  | agg (c c' : Array Value) (h3 : c.size = c'.size) (h4 : ∀ (i : Nat) v v', c[i]? = some v → c'[i]? = some v' → VR e v v') : VR e (.agg c) (.agg c')
  | tuple (c c' : Array Value) (h3 : c.size = c'.size) (h4 : ∀ (i : Nat) v v', c[i]? = some v → c'[i]? = some v' → VR e v v') : VR e (.tuple c) (.tuple c')
  | iface (t : TypeId) (v v' : Value) (h : VR e v v') : VR e (.iface t v) (.iface t v')

theorem VR.mono {e e' : Env} (he : e.le e') {v v' : Value} (h : VR e v v') : VR e' v v' := by
  induction h with
  | any v => exact .any v
  | ground v d h => exact .ground v d h
  | ptr i off b sh h => exact .ptr i off b sh (he.blk _ _ h)
  | slice i off n k cc b sh size h hn hm hs hr => exact .slice i off n k cc b sh size (he.blk _ _ h) hn hm (he.sz _ _ hs) hr
  | slice0 i off k cc b sh off' size h hm hs ho hr => exact .slice0 i off k cc b sh off' size (he.blk _ _ h) hm (he.sz _ _ hs) ho hr
  | map i b sh h => exact .map i b sh (he.blk _ _ h)
  | func f x x' c c' h1 _ h3 _ ih1 ih2 => exact .func f x x' c c' h1 ih1 h3 ih2
  | yield l b sh h => exact .yield l b sh (he.blk _ _ h)
  | agg c c' h3 _ ih => exact .agg c c' h3 ih
  | tuple c c' h3 _ ih => exact .tuple c c' h3 ih
  | iface t v v' _ ih => exact .iface t v v' ih

/-- Values without blocks stand to themselves alone. -/
theorem ground_eq {e : Env} {v v' : Value} (h : VR e v v') : ∀ d, ground d v = true → v' = v := by
  induction h with
  | any v => intro d hd; cases d <;> simp [unk, ground] at hd
  | ground v d h => intro _ _; rfl
  | ptr i off b sh h => intro d hd; cases d <;> simp [ground] at hd
  | slice i off n k cc b sh size h hn hm hs hr => intro d hd; cases d <;> simp [ground] at hd
  | slice0 i off k cc b sh off' size h hm hs ho hr => intro d hd; cases d <;> simp [ground] at hd
  | map i b sh h => intro d hd; cases d <;> simp [ground] at hd
  | yield l b sh h => intro d hd; cases d <;> simp [ground] at hd
  | func f x x' c c' h1 _ h3 _ ih1 ih2 =>
    intro d hd
    cases d with
    | zero => simp [ground] at hd
    | succ d =>
      simp only [ground, Bool.and_eq_true, List.all_eq_true] at hd
      have hx : x' = x := by
        refine Array.ext_getElem? fun i => ?_
        rcases Nat.lt_or_ge i x.size with hi | hi
        · have e1 : x[i]? = some x[i] := Array.getElem?_eq_getElem hi
          have e2 : x'[i]? = some (x'[i]'(by omega)) := Array.getElem?_eq_getElem (by omega)
          rw [e1, e2, ih1 i _ _ e1 e2 d (hd.1 _ (by simp))]
        · rw [Array.getElem?_eq_none (by omega), Array.getElem?_eq_none (by omega)]
      have hc : c' = c := by
        refine Array.ext_getElem? fun i => ?_
        rcases Nat.lt_or_ge i c.size with hi | hi
        · have e1 : c[i]? = some c[i] := Array.getElem?_eq_getElem hi
          have e2 : c'[i]? = some (c'[i]'(by omega)) := Array.getElem?_eq_getElem (by omega)
          rw [e1, e2, ih2 i _ _ e1 e2 d (hd.2 _ (by simp))]
        · rw [Array.getElem?_eq_none (by omega), Array.getElem?_eq_none (by omega)]
      rw [hx, hc]
  | agg c c' h3 _ ih =>
    intro d hd
    cases d with
    | zero => simp [ground] at hd
    | succ d =>
      simp only [ground, List.all_eq_true] at hd
      have hc : c' = c := by
        refine Array.ext_getElem? fun i => ?_
        rcases Nat.lt_or_ge i c.size with hi | hi
        · have e1 : c[i]? = some c[i] := Array.getElem?_eq_getElem hi
          have e2 : c'[i]? = some (c'[i]'(by omega)) := Array.getElem?_eq_getElem (by omega)
          rw [e1, e2, ih i _ _ e1 e2 d (hd _ (by simp))]
        · rw [Array.getElem?_eq_none (by omega), Array.getElem?_eq_none (by omega)]
      rw [hc]
  | tuple c c' h3 _ ih =>
    intro d hd
    cases d with
    | zero => simp [ground] at hd
    | succ d =>
      simp only [ground, List.all_eq_true] at hd
      have hc : c' = c := by
        refine Array.ext_getElem? fun i => ?_
        rcases Nat.lt_or_ge i c.size with hi | hi
        · have e1 : c[i]? = some c[i] := Array.getElem?_eq_getElem hi
          have e2 : c'[i]? = some (c'[i]'(by omega)) := Array.getElem?_eq_getElem (by omega)
          rw [e1, e2, ih i _ _ e1 e2 d (hd _ (by simp))]
        · rw [Array.getElem?_eq_none (by omega), Array.getElem?_eq_none (by omega)]
      rw [hc]
  | iface t v v' _ ih =>
    intro d hd
    cases d with
    | zero => simp [ground] at hd
    | succ d => simp only [ground] at hd; rw [ih d hd]

theorem VR.agg_inv {e : Env} {c : Array Value} {v : Value} (h : VR e (.agg c) v) : ∃ c', v = .agg c' ∧ All2 (VR e) c.toList c'.toList := by
  cases h with
  | ground _ d h =>
    refine ⟨c, rfl, All2.refl fun x hx => ?_⟩
    cases d with
    | zero => simp [Go.X.ground] at h
    | succ d => simp only [Go.X.ground, List.all_eq_true] at h; exact .ground x d (h x hx)
  | agg _ c' h3 h4 => exact ⟨c', rfl, All2.mk (by simpa using h3) fun i a b ha hb => h4 i a b (by simpa using ha) (by simpa using hb)⟩
theorem VR.tuple_inv {e : Env} {c : Array Value} {v : Value} (h : VR e (.tuple c) v) : ∃ c', v = .tuple c' ∧ All2 (VR e) c.toList c'.toList := by
  cases h with
  | ground _ d h =>
    refine ⟨c, rfl, All2.refl fun x hx => ?_⟩
    cases d with
    | zero => simp [Go.X.ground] at h
    | succ d => simp only [Go.X.ground, List.all_eq_true] at h; exact .ground x d (h x hx)
  | tuple _ c' h3 h4 => exact ⟨c', rfl, All2.mk (by simpa using h3) fun i a b ha hb => h4 i a b (by simpa using ha) (by simpa using hb)⟩
theorem VR.mkAgg {e : Env} {c c' : List Value} (h : All2 (VR e) c c') : VR e (.agg c.toArray) (.agg c'.toArray) := by
  refine .agg c.toArray c'.toArray (by have := h.length; simpa using this) fun i a b ha hb => ?_
  obtain ⟨b', hb', hr⟩ := h.get (i := i) (a := a) (by simpa using ha)
  have hb : c'[i]? = some b := by simpa using hb
  rw [hb] at hb'; cases hb'; exact hr
theorem VR.mkTuple {e : Env} {c c' : List Value} (h : All2 (VR e) c c') : VR e (.tuple c.toArray) (.tuple c'.toArray) := by
  refine .tuple c.toArray c'.toArray (by have := h.length; simpa using this) fun i a b ha hb => ?_
  obtain ⟨b', hb', hr⟩ := h.get (i := i) (a := a) (by simpa using ha)
  have hb : c'[i]? = some b := by simpa using hb
  rw [hb] at hb'; cases hb'; exact hr
theorem VR.cells {e : Env} {v v' : Value} (h : VR e v v') (hu : isUnk v = false) : All2 (VR e) v.cells.toList v'.cells.toList := by
  cases h with
  | any => simp [unk, isUnk] at hu
  | ground _ d hd =>
    cases v with
    | agg c => obtain ⟨c', hc, h2⟩ := VR.agg_inv (e := e) (.ground (.agg c) d hd); cases hc; exact h2
    | _ => exact ⟨.ground _ d hd, trivial⟩
  | agg c c' h3 h4 => obtain ⟨c'', hc, h2⟩ := VR.agg_inv (VR.agg c c' h3 h4); cases hc; exact h2
  | ptr i off b sh h => exact ⟨.ptr i off b sh h, trivial⟩
  | slice i off n k cc b sh size h hn hm hs hr => exact ⟨.slice i off n k cc b sh size h hn hm hs hr, trivial⟩
  | slice0 i off k cc b sh off' size h hm hs ho hr => exact ⟨.slice0 i off k cc b sh off' size h hm hs ho hr, trivial⟩
  | map i b sh h => exact ⟨.map i b sh h, trivial⟩
  | yield i b sh h => exact ⟨.yield i b sh h, trivial⟩
  | func f x x' c c' h1 h2 h3 h4 => exact ⟨.func f x x' c c' h1 h2 h3 h4, trivial⟩
  | tuple c c' h3 h4 => exact ⟨.tuple c c' h3 h4, trivial⟩
  | iface t v v' h => exact ⟨.iface t v v' h, trivial⟩
end Go.X
