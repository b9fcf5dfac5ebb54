import Derived.Test.YtaknejhfphalaaaGreatDoorXDraw4
/-
  Two stores that touch no cell together come to the same in either order (no model here).
-/
namespace Go.X
open Go
variable {x : Cx}

def splice (c : List Value) (o : Nat) (vs : List Value) : List Value := c.take o ++ (vs ++ c.drop (Nat.add o vs.length))
theorem splice_get {c : List Value} {o : Nat} {vs : List Value} (h : o + vs.length ≤ c.length) (k : Nat) :
    (splice c o vs)[k]? = if k < o then c[k]? else if k < o + vs.length then vs[k - o]? else c[k]? := by
  unfold splice
  have e : Nat.add o vs.length = o + vs.length := rfl
  have ht : (c.take o).length = o := by simp; omega
  rw [e]
  by_cases h1 : k < o
  · rw [if_pos h1, List.getElem?_append_left (by omega), List.getElem?_take, if_pos h1]
  · rw [if_neg h1, List.getElem?_append_right (by omega), ht]
    by_cases h2 : k < o + vs.length
    · rw [if_pos h2, List.getElem?_append_left (by omega)]
    · rw [if_neg h2, List.getElem?_append_right (by omega), List.getElem?_drop]
      congr 1; omega
theorem splice_length {c : List Value} {o : Nat} {vs : List Value} (h : o + vs.length ≤ c.length) : (splice c o vs).length = c.length := by
  unfold splice
  have e : Nat.add o vs.length = o + vs.length := rfl
  rw [e]; simp; omega
theorem splice_comm {c : List Value} {o p : Nat} {vs us : List Value} (h1 : o + vs.length ≤ c.length) (h2 : p + us.length ≤ c.length) (h : o + vs.length ≤ p ∨ p + us.length ≤ o) :
    splice (splice c o vs) p us = splice (splice c p us) o vs := by
  apply List.ext_getElem?
  intro k
  rw [splice_get (by rw [splice_length h1]; exact h2), splice_get h1, splice_get (by rw [splice_length h2]; exact h1), splice_get h2]
  by_cases a : k < p <;> by_cases b : k < p + us.length <;> by_cases c : k < o <;> by_cases d : k < o + vs.length <;> simp [a, b, c, d] <;> omega

/-- where a store goes, and what it needs -/
def PutAt (x : Cx) (S : AS) (i o : Nat) (vs : List Value) (c : List Value) (el : TypeId) (wh : Bool) : Prop :=
  Nat.blt i x.G = false ∧ S.heap.get i = some (.cells c el wh) ∧ flats vs = true ∧ o + vs.length ≤ c.length
theorem putCells_inv {S S1 : AS} {i o : Nat} {vs : List Value} (h : putCells x S i o vs = some S1) :
    ∃ c el wh, PutAt x S i o vs c el wh ∧ S1 = { S with heap := S.heap.set i (some (.cells (splice c o vs) el wh)) } := by
  unfold putCells at h
  split at h
  · cases h
  · rename_i hG
    split at h
    · rename_i c el wh hg
      split at h
      · rename_i hf
        split at h
        · rename_i hl
          cases h
          exact ⟨c, el, wh, ⟨hG, hg, hf, ble_iff.1 hl⟩, rfl⟩
        · cases h
      · cases h
    · cases h
theorem putCells_mk {S : AS} {i o : Nat} {vs c : List Value} {el : TypeId} {wh : Bool} (h : PutAt x S i o vs c el wh) :
    putCells x S i o vs = some { S with heap := S.heap.set i (some (.cells (splice c o vs) el wh)) } := by
  obtain ⟨h1, h2, h3, h4⟩ := h
  unfold putCells
  rw [h1, h2]
  simp only [h3]
  have : Nat.ble (Nat.add o vs.length) c.length = true := ble_iff.2 h4
  rw [this]; rfl
theorem putCells_comm {S S1 S2 : AS} {i j o p : Nat} {vs us : List Value} (h1 : putCells x S i o vs = some S1) (h2 : putCells x S1 j p us = some S2) (h : i ≠ j ∨ o + vs.length ≤ p ∨ p + us.length ≤ o) :
    ∃ A Z, putCells x S j p us = some A ∧ putCells x A i o vs = some Z ∧ Z.next = S2.next ∧ ∀ k, Z.heap.get k = S2.heap.get k := by
  obtain ⟨c, el, wh, a1, rfl⟩ := putCells_inv h1
  obtain ⟨d, el2, wh2, b1, rfl⟩ := putCells_inv h2
  obtain ⟨a11, a12, a13, a14⟩ := a1
  obtain ⟨b11, b12, b13, b14⟩ := b1
  by_cases hij : j = i
  · subst hij
    have b12' : PT.get (PT.set S.heap j (some (.cells (splice c o vs) el wh))) j = some (.cells d el2 wh2) := b12
    rw [PT.get_set_same] at b12'
    cases b12'
    rw [splice_length a14] at b14
    have hA : PutAt x S j p us c el wh := ⟨a11, a12, b13, b14⟩
    refine ⟨_, _, putCells_mk hA, putCells_mk (c := splice c p us) (el := el) (wh := wh) ⟨a11, PT.get_set_same _ _ _, a13, by rw [splice_length b14]; exact a14⟩, rfl, fun k => ?_⟩
    show PT.get (PT.set (PT.set S.heap j _) j _) k = PT.get (PT.set (PT.set S.heap j _) j _) k
    by_cases hk : k = j
    · subst hk
      rw [PT.get_set_same, PT.get_set_same]
      rcases h with h | h
      · exact absurd rfl h
      · rw [splice_comm a14 b14 h]
    · rw [PT.get_set_other _ _ _ _ hk, PT.get_set_other _ _ _ _ hk, PT.get_set_other _ _ _ _ hk, PT.get_set_other _ _ _ _ hk]
  · have b12' : PT.get (PT.set S.heap i (some (.cells (splice c o vs) el wh))) j = some (.cells d el2 wh2) := b12
    rw [PT.get_set_other _ _ _ _ hij] at b12'
    refine ⟨_, _, putCells_mk ⟨b11, b12', b13, b14⟩, putCells_mk (c := c) (el := el) (wh := wh) ⟨a11, ?_, a13, a14⟩, rfl, fun k => ?_⟩
    · show PT.get (PT.set S.heap j _) i = _
      rw [PT.get_set_other _ _ _ _ (Ne.symm hij)]; exact a12
    · show PT.get (PT.set (PT.set S.heap j _) i _) k = PT.get (PT.set (PT.set S.heap i _) j _) k
      by_cases hk : k = i
      · subst hk
        rw [PT.get_set_same, PT.get_set_other _ _ _ _ (Ne.symm hij), PT.get_set_same]
      · rw [PT.get_set_other _ _ _ _ hk]
        by_cases hk2 : k = j
        · subst hk2
          rw [PT.get_set_same, PT.get_set_same]
        · rw [PT.get_set_other _ _ _ _ hk2, PT.get_set_other _ _ _ _ hk2, PT.get_set_other _ _ _ _ hk]
theorem storeV_inv {S S1 : AS} {t : TypeId} {a v u : Value} (h : storeV x S t a v = some (u, S1)) :
    ∃ ad, a = .pointer (some ad) ∧ u = undef ∧ putCells x S ad.block ad.off (cellsL v) = some S1 := by
  unfold storeV at h
  split at h
  · rename_i ad
    split at h
    · cases h
    · split at h
      · split at h
        · split at h
          · rename_i S2 hp
            cases h
            exact ⟨ad, rfl, rfl, hp⟩
          · cases h
        · cases h
      · cases h
  · cases h
theorem storeV_mk {S S1 A B : AS} {t : TypeId} {ad : Addr} {v u : Value} (h : storeV x S t (.pointer (some ad)) v = some (u, S1)) (hp : putCells x A ad.block ad.off (cellsL v) = some B) :
    storeV x A t (.pointer (some ad)) v = some (undef, B) := by
  unfold storeV at *
  cases hs : ad.spot with
  | some _ => simp only [hs] at h; cases h
  | none =>
    simp only [hs] at h ⊢
    cases hn : sizeT x t with
    | none => simp only [hn] at h; cases h
    | some n =>
      simp only [hn] at h ⊢
      cases hb : Nat.beq (cellsL v).length n with
      | false => simp only [hb] at h; cases h
      | true => simp only [hp]
theorem storeV_comm {S S1 S2 : AS} {t t' : TypeId} {ad ad' : Addr} {v v' u u' : Value} (h1 : storeV x S t (.pointer (some ad)) v = some (u, S1)) (h2 : storeV x S1 t' (.pointer (some ad')) v' = some (u', S2))
    (h : ad.block ≠ ad'.block ∨ ad.off + (cellsL v).length ≤ ad'.off ∨ ad'.off + (cellsL v').length ≤ ad.off) :
    ∃ A Z, storeV x S t' (.pointer (some ad')) v' = some (u', A) ∧ storeV x A t (.pointer (some ad)) v = some (u, Z) ∧ Z.next = S2.next ∧ ∀ k, Z.heap.get k = S2.heap.get k := by
  obtain ⟨b1, e1, rfl, p1⟩ := storeV_inv h1
  obtain ⟨b2, e2, rfl, p2⟩ := storeV_inv h2
  cases e1; cases e2
  obtain ⟨A, Z, q1, q2, q3, q4⟩ := putCells_comm p1 p2 h
  exact ⟨A, Z, storeV_mk h2 q1, storeV_mk h1 q2, q3, q4⟩

/-! the checks on a pair -/
theorem apartS_of {a b : Option (Nat × Nat × Nat)} (h : apartS a b = true) : ∃ i o n j p m, a = some (i, o, n) ∧ b = some (j, p, m) ∧ (i ≠ j ∨ o + n ≤ p ∨ p + m ≤ o) := by
  unfold apartS at h
  split at h
  · rename_i i o n
    split at h
    · rename_i j p m
      refine ⟨i, o, n, j, p, m, rfl, rfl, ?_⟩
      split at h
      · rename_i hb
        exact .inl fun hh => by rw [beq_iff.2 hh] at hb; cases hb
      · split at h
        · rename_i hb; exact .inr (.inl (ble_iff.1 hb))
        · exact .inr (.inr (ble_iff.1 h))
    · cases h
  · cases h
theorem storeAt_of {r : DR} {i o n : Nat} (h : storeAt x r = some (i, o, n)) : ∃ t a y ad, r.o.op = .store t a y ∧ ev x r.f a = .pointer (some ad) ∧ i = ad.block ∧ o = ad.off ∧ n = (cellsL (ev x r.f y)).length := by
  unfold storeAt at h
  split at h
  · rename_i t a y ho
    split at h
    · rename_i ad hv
      cases h
      exact ⟨t, a, y, ad, ho, hv, rfl, rfl, rfl⟩
    · cases h
  · cases h
theorem findPair_cons (a : DR) (l : List DR) : findPair (a :: l) = (match l with
      | [] => none
      | d :: _ => match Nat.testBit d.m a.i with
        | true => findPair l
        | false => some (a, d)) := rfl
theorem findPair_mem : ∀ {l : List DR} {c d : DR}, UpR l → findPair l = some (c, d) → c ∈ l ∧ d ∈ l ∧ ∀ r, r ∈ l → ¬ (c.i < r.i ∧ r.i < d.i)
  | [], c, d, _, h => by cases h
  | a :: l, c, d, hu, h => by
    rw [findPair_cons] at h
    obtain ⟨u1, u2⟩ := List.pairwise_cons.1 hu
    split at h
    · cases h
    · rename_i e rest
      split at h
      · obtain ⟨h1, h2, h3⟩ := findPair_mem u2 h
        refine ⟨by simp [h1], by simp [h2], fun r hr hh => ?_⟩
        rcases List.mem_cons.1 hr with hra | hr
        · have := u1 c h1; rw [hra] at hh; omega
        · exact h3 r hr hh
      · cases h
        refine ⟨by simp, by simp, fun r hr hh => ?_⟩
        rcases List.mem_cons.1 hr with hra | hr
        · rw [hra] at hh; omega
        · rcases List.mem_cons.1 hr with hra | hr
          · rw [hra] at hh; omega
          · have := (List.pairwise_cons.1 u2).1 r hr; omega
theorem onX_all {s t i : Nat} : ∀ {l : List DR}, onX s t i l = true → ∀ c, c ∈ l → Nat.testBit c.m i = true ∨ (s = i ∧ t = c.i)
  | [], _, _, h => by simp at h
  | d :: l, h, c, hc => by
    change (match Nat.testBit d.m i with
      | true => onX s t i l
      | false => match Nat.beq s i with
        | true => match Nat.beq t d.i with
          | true => onX s t i l
          | false => false
        | false => false) = true at h
    have rest : onX s t i l = true := by
      split at h
      · exact h
      · split at h
        · split at h
          · exact h
          · cases h
        · cases h
    rcases List.mem_cons.1 hc with hca | hc
    · rw [hca]
      split at h
      · rename_i hb; exact .inl hb
      · split at h
        · rename_i h1
          split at h
          · rename_i h2; exact .inr ⟨beq_iff.1 h1, beq_iff.1 h2⟩
          · cases h
        · cases h
    · exact onX_all rest c hc
theorem orderedX_all {s t : Nat} : ∀ {l : List DR}, UpR l → orderedX s t l = true → ∀ c d, c ∈ l → d ∈ l → c.i < d.i → Nat.testBit d.m c.i = true ∨ (s = c.i ∧ t = d.i)
  | [], _, _, c, _, h, _, _ => by simp at h
  | a :: l, hu, h, c, d, hc, hd, hlt => by
    change (match onX s t a.i l with
      | true => orderedX s t l
      | false => false) = true at h
    obtain ⟨u1, u2⟩ := List.pairwise_cons.1 hu
    split at h
    · rename_i h1
      rcases List.mem_cons.1 hc with hca | hc2
      · rcases List.mem_cons.1 hd with hda | hd2
        · rw [hca, hda] at hlt; omega
        · rw [hca]; exact onX_all h1 d hd2
      · rcases List.mem_cons.1 hd with hda | hd2
        · have := u1 c hc2; rw [hda] at hlt; omega
        · exact orderedX_all u2 h c d hc2 hd2 hlt
    · cases h
theorem apartReads_all {s t : DR} : ∀ {l : List DR}, apartReads s t l = true → ∀ r, r ∈ l → r.k = .read → Nat.testBit r.m s.i = true ∨ Nat.testBit t.m r.i = true
  | [], _, _, h, _ => by simp at h
  | d :: l, h, r, hr, hk => by
    change (match d.k with
      | .read => match Nat.testBit d.m s.i with
        | true => apartReads s t l
        | false => match Nat.testBit t.m d.i with
          | true => apartReads s t l
          | false => false
      | _ => apartReads s t l) = true at h
    rcases List.mem_cons.1 hr with hra | hr
    · rw [← hra, hk] at h
      simp only at h
      split at h
      · rename_i hb; exact .inl hb
      · split at h
        · rename_i hb; exact .inr hb
        · cases h
    · refine apartReads_all (l := l) ?_ r hr hk
      split at h
      · split at h
        · exact h
        · split at h
          · exact h
          · cases h
      · exact h
theorem noHang_of {r : DR} (h : noHang r = true) : hangs true r.m r.pd = [] := by
  unfold noHang at h
  split at h
  · assumption
  · cases h
end Go.X
