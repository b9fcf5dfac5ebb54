import Derived.Test.YtofffmieimggmaaGreatDoorXHook
/-
  Part twenty-nine: the entries of a hook.
-/
namespace Go.X
open Go
variable {x : Cx}

/-! renaming, checked -/
theorem rnI_ok {r : Nat → Option Nat} {i j : Nat} (h : rnI r i j = true) : r i = some j := by
  unfold rnI at h
  split at h
  · rename_i k hk; rw [hk, beq_iff.1 h]
  · cases h
theorem rnA_ok {r : Nat → Option Nat} {a b : Addr} (h : rnA r a b = true) : ∃ i j off, a = ⟨i, off, none⟩ ∧ b = ⟨j, off, none⟩ ∧ r i = some j := by
  unfold rnA at h
  split at h
  · cases h
  · rename_i h1
    split at h
    · cases h
    · rename_i h2
      split at h
      · rename_i h3
        obtain ⟨i, o, sa⟩ := a
        obtain ⟨j, p, sb⟩ := b
        simp only at h1 h2 h3 h
        subst h1; subst h2
        have := beq_iff.1 h
        subst this
        exact ⟨i, j, o, rfl, rfl, rnI_ok h3⟩
      · cases h
theorem allEq_all2 {p : Value → Value → Bool} {R : Value → Value → Prop} (hp : ∀ v u, p v u = true → R v u) : ∀ (l m : List Value), allEq p l m = true → All2 R l m
  | [], [], _ => trivial
  | [], _ :: _, h => by cases h
  | a :: l, [], h => by cases h
  | a :: l, b :: m, h => by
    change (match p a b with
      | true => allEq p l m
      | false => false) = true at h
    split at h
    · rename_i h1; exact ⟨hp a b h1, allEq_all2 hp l m h⟩
    · cases h
theorem rnArr {p : Value → Value → Bool} {R : Value → Value → Prop} (hp : ∀ v u, p v u = true → R v u) {a b : Array Value} (h : allEq p a.toList b.toList = true) :
    a.size = b.size ∧ ∀ (i : Nat) v v', a[i]? = some v → b[i]? = some v' → R v v' := all2_at (allEq_all2 hp _ _ h)
theorem rnStep_ok {r : Nat → Option Nat} {rec : Value → Value → Bool} (hrec : ∀ u v, rec u v = true → RV (fun i j => r i = some j) u v) {u v : Value} (h : rnStep r rec u v = true) : RV (fun i j => r i = some j) u v := by
  unfold rnStep at h
  split at h
  · split at h
    · obtain ⟨i, j, off, rfl, rfl, hr⟩ := rnA_ok h
      exact .ptr i j off hr
    · cases h
  · split at h
    · split at h
      · rename_i h1
        split at h
        · rename_i h2
          obtain ⟨i, j, off, rfl, rfl, hr⟩ := rnA_ok h
          rw [beq_iff.1 h1, beq_iff.1 h2]
          exact .slice i j off _ _ hr
        · cases h
      · cases h
    · cases h
  · split at h
    · exact .map _ _ (rnI_ok h)
    · cases h
  · split at h
    · split at h
      · rename_i h1
        split at h
        · rename_i h2
          obtain ⟨a1, a2⟩ := rnArr hrec h2
          obtain ⟨b1, b2⟩ := rnArr hrec h
          rw [beq_iff.1 h1]
          exact .func _ _ _ _ _ a1 a2 b1 b2
        · cases h
      · cases h
    · cases h
  · split at h
    · split at h
      · rename_i h1
        rw [beq_iff.1 h1]
        exact .iface _ _ _ (hrec _ _ h)
      · cases h
    · cases h
  · split at h
    · obtain ⟨b1, b2⟩ := rnArr hrec h
      exact .agg _ _ b1 b2
    · cases h
  · split at h
    · obtain ⟨b1, b2⟩ := rnArr hrec h
      exact .tuple _ _ b1 b2
    · cases h
  · exact .any _
  · split at h
    · rename_i hg
      obtain ⟨d, hd⟩ := ground6_ok hg
      rw [veq_ok _ _ _ h]
      rw [veq_ok _ _ _ h] at hd
      exact .ground _ d hd
    · cases h
theorem rnV_ok {r : Nat → Option Nat} : ∀ (n : Nat) (u v : Value), rnV r n u v = true → RV (fun i j => r i = some j) u v
  | 0, _, _, h => by cases h
  | n + 1, u, v, h => rnStep_ok (fun u v h => rnV_ok n u v h) h
theorem rnEs_ok {p : Value → Value → Bool} {R : Value → Value → Prop} (hp : ∀ v u, p v u = true → R v u) : ∀ (l m : List MapEntry), rnEs p l m = true → All2 (fun m m' : MapEntry => m'.key = m.key ∧ m'.born = m.born ∧ R m.val m'.val) l m
  | [], [], _ => trivial
  | [], _ :: _, h => by cases h
  | a :: l, [], h => by cases h
  | a :: l, b :: m, h => by
    change (match veq 4 a.key b.key with
      | true => match Nat.beq a.born b.born with
        | true => match p a.val b.val with
          | true => rnEs p l m
          | false => false
        | false => false
      | false => false) = true at h
    split at h
    · rename_i h1
      split at h
      · rename_i h2
        split at h
        · rename_i h3
          exact ⟨⟨(veq_ok _ _ _ h1).symm, (beq_iff.1 h2).symm, hp _ _ h3⟩, rnEs_ok hp l m h⟩
        · cases h
      · cases h
    · cases h
theorem rnO_ok {r : Nat → Option Nat} {o p : AObj} (h : rnO r o p = true) : RO (fun i j => r i = some j) o p := by
  unfold rnO at h
  split at h
  · split at h
    · split at h
      · rename_i h1
        split at h
        · rename_i h2
          rw [beq_iff.1 h1, eq_of_beq h2]
          exact .cells _ _ _ _ (allEq_all2 (fun u v h => rnV_ok 9 u v h) _ _ h)
        · cases h
      · cases h
    · cases h
  · split at h
    · split at h
      · rename_i h1
        rw [beq_iff.1 h1]
        exact .map _ _ _ (rnEs_ok (fun u v h => rnV_ok 9 u v h) _ _ h)
      · cases h
    · cases h
  · split at h
    · exact .deferred
    · cases h
  · cases h
theorem rnOs_ok {r : Nat → Option Nat} {t : PT AObj} : ∀ (os : List AObj) (ro : List Nat), rnOs r t os ro = true → os.length = ro.length ∧ ∀ (k : Nat) o, os[k]? = some o → ∃ j p, ro[k]? = some j ∧ t.get j = some p ∧ RO (fun i j => r i = some j) o p
  | [], [], _ => ⟨rfl, fun k o h => by simp at h⟩
  | [], _ :: _, h => by cases h
  | a :: l, [], h => by cases h
  | a :: l, b :: m, h => by
    change (match t.get b with
      | some p => match rnO r a p with
        | true => rnOs r t l m
        | false => false
      | none => false) = true at h
    split at h
    · rename_i p hp
      split at h
      · rename_i h1
        obtain ⟨k1, k2⟩ := rnOs_ok l m h
        refine ⟨by simp [k1], fun k o hk => ?_⟩
        cases k with
        | zero => simp at hk; subst hk; exact ⟨b, p, by simp, hp, rnO_ok h1⟩
        | succ k =>
          rw [List.getElem?_cons_succ] at hk
          obtain ⟨j, q, h1, h2, h3⟩ := k2 k o hk
          exact ⟨j, q, by rw [List.getElem?_cons_succ]; exact h1, h2, h3⟩
      · cases h
    · cases h
theorem notIn_ok {i : Nat} : ∀ {l : List Nat}, notIn i l = true → i ∉ l
  | [], _ => by simp
  | j :: l, h => by
    change (match Nat.beq i j with
      | true => false
      | false => notIn i l) = true at h
    cases hb : Nat.beq i j with
    | true => rw [hb] at h; cases h
    | false =>
      rw [hb] at h
      have := notIn_ok (l := l) h
      intro hm
      rcases List.mem_cons.1 hm with hh | hh
      · rw [beq_iff.2 hh] at hb; cases hb
      · exact this hh
theorem unlike_ok : ∀ {l : List Nat}, unlike l = true → l.Nodup
  | [], _ => List.nodup_nil
  | i :: l, h => by
    change (match notIn i l with
      | true => unlike l
      | false => false) = true at h
    split at h
    · rename_i h1; exact List.nodup_cons.2 ⟨notIn_ok h1, unlike_ok h⟩
    · cases h

end Go.X
