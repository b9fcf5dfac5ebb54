import Derived.Test.YtaknejhfphalaaaGreatDoorXRel
import Derived.Laws.Entries
import Derived.Laws.Strings
/-
  Part four: the operations that look at no block: what the model does is what the executor says.
-/
namespace Go.X
open Go
variable {x : Cx} {e : Env} {S : AS} {w : World}

theorem pureRun_run {P : Program} {α : Type} (s : Sem α) (v : α) (w : World) (h : pureRun P s = some v) : s.run P w = .ok v w := by
  induction s with
  | pure a => simp only [pureRun, Option.some.injEq] at h; subst h; rfl
  | program k ih => exact ih P h
  | mark m k ih => exact ih h
  | choose q k ih =>
    simp only [pureRun] at h
    simp only [Sem.run]
    cases hq : q.forced with
    | true => simp only [hq] at h; simp only [if_true]; exact ih 0 h
    | false => simp [hq] at h
  | _ => simp [pureRun] at h

theorem ground6_ok {v : Value} (h : ground6 v = true) : ∃ d, ground d v = true := by
  unfold ground6 at h
  split at h <;> first | exact ⟨0, rfl⟩ | exact ⟨8, h⟩
theorem VR.of6 {v : Value} (h : ground6 v = true) : VR e v v := let ⟨d, hd⟩ := ground6_ok h; .ground v d hd
theorem VR.eq6 {v v' : Value} (h : VR e v v') (h6 : ground6 v = true) : v' = v := let ⟨d, hd⟩ := ground6_ok h6; ground_eq h d hd
theorem VR.int_inv {k : IntKind} {n : Int} {v : Value} (h : VR e (.int k n) v) : v = .int k n := ground_eq h 0 rfl
theorem VR.bool_inv {b : Bool} {v : Value} (h : VR e (.bool b) v) : v = .bool b := ground_eq h 0 rfl
theorem VR.string_inv {s : ByteArray} {v : Value} (h : VR e (.string s) v) : v = .string s := ground_eq h 0 rfl
theorem VR.ptr0_inv {v : Value} (h : VR e (.pointer none) v) : v = .pointer none := ground_eq h 0 rfl
theorem VR.slice0_inv {n c : Nat} {v : Value} (h : VR e (.slice none n c) v) : v = .slice none n c := ground_eq h 0 rfl
theorem VR.map0_inv {v : Value} (h : VR e (.map none) v) : v = .map none := ground_eq h 0 rfl
theorem VR.nilFunc_inv {v : Value} (h : VR e .nilFunc v) : v = .nilFunc := ground_eq h 0 rfl
theorem VR.nilIface_inv {v : Value} (h : VR e .nilIface v) : v = .nilIface := ground_eq h 0 rfl
theorem VR.int (k : IntKind) (n : Int) : VR e (.int k n) (.int k n) := .ground _ 0 rfl
theorem VR.bool (b : Bool) : VR e (.bool b) (.bool b) := .ground _ 0 rfl
theorem VR.string (s : ByteArray) : VR e (.string s) (.string s) := .ground _ 0 rfl
theorem VR.undef : VR e undef undef := .ground _ 1 rfl
theorem VR.ptr_inv {a : Addr} {v : Value} (h : VR e (.pointer (some a)) v) :
    ∃ b sh, e.blk a.block = some (b, sh) ∧ a.spot = none ∧ v = .pointer (some ⟨b, sh + a.off, none⟩) := by
  cases h with
  | ground _ d h => cases d <;> simp [Go.X.ground] at h
  | ptr i off b sh h => exact ⟨b, sh, h, rfl, rfl⟩
theorem VR.slice_inv {a : Addr} {n k : Nat} {v : Value} (h : VR e (.slice (some a) n k) v) :
    ∃ b sh off' cc size, a.spot = none ∧ e.blk a.block = some (b, sh) ∧ v = .slice (some ⟨b, off', none⟩) n cc ∧ n ≤ cc ∧ cc ≤ maxLen ∧ e.sz b = some size ∧ off' + cc * k ≤ size ∧ sh ≤ off' ∧
      (0 < n → off' = sh + a.off) := by
  cases h with
  | ground _ d h => cases d <;> simp [Go.X.ground] at h
  | slice i off _ _ cc b sh size h hn hm hs hr => exact ⟨b, sh, sh + off, cc, size, rfl, h, rfl, hn, hm, hs, hr, Nat.le_add_right _ _, fun _ => rfl⟩
  | slice0 i off _ cc b sh off' size h hm hs ho hr => exact ⟨b, sh, off', cc, size, rfl, h, rfl, Nat.zero_le _, hm, hs, hr, ho, fun h => absurd h (by omega)⟩
theorem VR.map_inv {i : Nat} {v : Value} (h : VR e (.map (some i)) v) : ∃ b sh, e.blk i = some (b, sh) ∧ v = .map (some b) := by
  cases h with
  | ground _ d h => cases d <;> simp [Go.X.ground] at h
  | map _ b sh h => exact ⟨b, sh, h, rfl⟩
theorem VR.iface_inv {e : Env} {t : TypeId} {v v' : Value} (h : VR e (.iface t v) v') : ∃ u, v' = .iface t u ∧ VR e v u := by
  cases h with
  | ground _ d h =>
    cases d with
    | zero => simp [Go.X.ground] at h
    | succ d => exact ⟨v, rfl, .ground v d h⟩
  | iface _ _ u h => exact ⟨u, rfl, h⟩
theorem VR.func_inv {f : FuncId} {c1 c2 : Array Value} {v : Value} (h : VR e (.func (.func f) c1 c2) v) :
    ∃ d1 d2, v = .func (.func f) d1 d2 ∧ All2 (VR e) c1.toList d1.toList ∧ All2 (VR e) c2.toList d2.toList := by
  cases h with
  | ground _ d h =>
    cases d with
    | zero => simp [Go.X.ground] at h
    | succ d =>
      simp only [Go.X.ground, Bool.and_eq_true, List.all_eq_true] at h
      exact ⟨c1, c2, rfl, All2.refl fun v hv => .ground v d (h.1 v hv), All2.refl fun v hv => .ground v d (h.2 v hv)⟩
  | func _ _ x' _ c' h1 h2 h3 h4 =>
    exact ⟨x', c', rfl, All2.mk (by simpa using h1) fun i a b ha hb => h2 i a b (by simpa using ha) (by simpa using hb),
      All2.mk (by simpa using h3) fun i a b ha hb => h4 i a b (by simpa using ha) (by simpa using hb)⟩
theorem VR.yield_inv {l : Nat} {v : Value} (h : VR e (.func (.yield l) #[] #[]) v) : ∃ b sh, e.blk l = some (b, sh) ∧ v = .func (.yield b) #[] #[] := by
  cases h with
  | ground _ d h => cases d <;> simp [Go.X.ground] at h
  | yield _ b sh h => exact ⟨b, sh, h, rfl⟩
theorem VR.mkFunc {f : FuncId} {a b a' b' : List Value} (h : All2 (VR e) a a') (k : All2 (VR e) b b') :
    VR e (.func (.func f) a.toArray b.toArray) (.func (.func f) a'.toArray b'.toArray) := by
  refine .func f _ _ _ _ (by simpa using h.length) (fun i u v hu hv => ?_) (by simpa using k.length) (fun i u v hu hv => ?_)
  · obtain ⟨v', hv', hr⟩ := h.get (i := i) (a := u) (by simpa using hu)
    have hv : a'[i]? = some v := by simpa using hv
    rw [hv] at hv'; cases hv'; exact hr
  · obtain ⟨v', hv', hr⟩ := k.get (i := i) (a := u) (by simpa using hu)
    have hv : b'[i]? = some v := by simpa using hv
    rw [hv] at hv'; cases hv'; exact hr

theorem nth_eq {α : Type} : ∀ (l : List α) (i : Nat), nth l i = l[i]?
  | [], _ => rfl
  | _ :: _, 0 => rfl
  | _ :: l, i + 1 => (nth_eq l i).trans rfl
theorem cellsL_eq (v : Value) : cellsL v = v.cells.toList := by cases v <;> rfl
theorem blt_iff {a b : Nat} : Nat.blt a b = true ↔ a < b := by simp [Nat.blt]; exact Nat.succ_le_iff
theorem ble_iff {a b : Nat} : Nat.ble a b = true ↔ a ≤ b := Iff.of_eq Nat.ble_eq
theorem beq_iff {a b : Nat} : Nat.beq a b = true ↔ a = b := Iff.of_eq Nat.beq_eq

theorem BA.ext {a b : ByteArray} (h : a.data.toList = b.data.toList) : a = b := by
  cases a; cases b; simp at h; simp [h]

/-! operands -/
theorem ev_ok (h : Rel x e S w) {N : Nat} {f : Fr} {a : Act} (hf : FR e N f a.tmps) (o : Operand) : VR e (ev x f o) (a.eval o) := by
  cases o with
  | tmp t => exact hf.val t
  | const v =>
    show VR e (match ground6 v with | true => v | false => unk) v
    cases hg : ground6 v with
    | true => exact .of6 hg
    | false => exact .any v
  | global g =>
    show VR e (match Nat.blt g x.G with | true => .pointer (some ⟨g, 0, none⟩) | false => unk) (.pointer (some ⟨g, 0, none⟩))
    cases hg : Nat.blt g x.G with
    | true => exact .ptr g 0 g 0 (h.glob g (blt_iff.1 hg))
    | false => exact .any _
  | func g => exact .func g #[] #[] #[] #[] rfl (fun i v v' hv => by simp at hv) rfl (fun i v v' hv => by simp at hv)
theorem evs_ok (h : Rel x e S w) {N : Nat} {f : Fr} {a : Act} (hf : FR e N f a.tmps) : ∀ (l : List Operand), All2 (VR e) (evs x f l) (l.map a.eval)
  | [] => trivial
  | o :: l => ⟨ev_ok h hf o, evs_ok h hf l⟩

/-! the program's types -/
theorem sizeT_run {t n : Nat} (h : sizeT x t = some n) (w : World) : (sizeOf t).run x.P w = .ok n w := by
  unfold sizeT at h
  cases hi : x.P.info? t with
  | none => simp [hi] at h
  | some i => simp only [hi, Option.some.injEq] at h; subst h; simp [sizeOf, typeInfo, hi]
theorem isAggT_run {t : Nat} {b : Bool} (h : isAggT x t = some b) (w : World) : (isAgg t).run x.P w = .ok b w := by
  unfold isAggT at h
  unfold isAgg
  cases hu : x.P.underlying t with
  | none => simp [hu] at h
  | some d => rw [Sem.run_bind, run_underlying hu w]; cases d <;> simp_all
theorem zeroT_run {t : Nat} {z : Value} (h : zeroT x t = some z) (w : World) : (zeroValue t).run x.P w = .ok z w := by
  unfold zeroT at h
  cases hi : x.P.info? t with
  | none => simp [hi] at h
  | some i =>
    simp only [hi] at h
    cases hz : i.zero with
    | none => simp [hz] at h
    | some z' =>
      simp only [hz] at h
      cases hg : ground 12 z' with
      | false => simp [hg] at h
      | true => simp only [hg, Option.some.injEq] at h; subst h; simp [zeroValue, typeInfo, hi, hz]
theorem zeroT_ground {t : Nat} {z : Value} (h : zeroT x t = some z) : ground 12 z = true := by
  unfold zeroT at h
  cases hi : x.P.info? t with
  | none => simp [hi] at h
  | some i =>
    simp only [hi] at h
    cases hz : i.zero with
    | none => simp [hz] at h
    | some z' =>
      simp only [hz] at h
      cases hg : ground 12 z' with
      | false => simp [hg] at h
      | true => simp only [hg, Option.some.injEq] at h; subst h; exact hg
end Go.X
