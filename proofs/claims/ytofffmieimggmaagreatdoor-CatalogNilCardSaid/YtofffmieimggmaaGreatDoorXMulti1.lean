import Derived.Test.YtofffmieimggmaaGreatDoorXHook2
import Derived.Laws.IdiomRangeMap
/-
  Part thirty: loops over maps, entry by entry in whatever order.
-/
namespace Go.X
open Go
variable {x : Cx} {e : Env} {S : AS} {w : World} {N : Nat} {f : Fr} {a : Act}

theorem notIn_iff {i : Nat} : ∀ {l : List Nat}, notIn i l = true ↔ i ∉ l
  | [] => by simp [notIn]
  | j :: l => by
    have ih := notIn_iff (i := i) (l := l)
    have hd : notIn i (j :: l) = (match Nat.beq i j with
      | true => false
      | false => notIn i l) := rfl
    rw [hd]
    cases hb : Nat.beq i j with
    | true => simp [beq_iff.1 hb]
    | false =>
      have : i ≠ j := fun hh => by rw [beq_iff.2 hh] at hb; cases hb
      simp only [List.mem_cons, not_or]
      exact ⟨fun h => ⟨this, ih.1 h⟩, fun h => ih.2 h.2⟩
theorem left_all2 {seen : List Nat} : ∀ {es es' : List MapEntry}, All2 (EntR e) es es' → All2 (EntR e) (leftL seen es) (es'.filter fun m => !seen.toArray.contains m.born)
  | [], [], _ => trivial
  | m :: es, m' :: es', h => by
    have ih := left_all2 (seen := seen) h.2
    have hd : leftL seen (m :: es) = (match notIn m.born seen with
      | true => m :: leftL seen es
      | false => leftL seen es) := rfl
    rw [hd, List.filter_cons, h.1.2.1]
    cases hn : notIn m.born seen with
    | true =>
      have hni := notIn_iff.1 hn
      have : (!seen.toArray.contains m.born) = true := by simpa using hni
      rw [this]
      simp only [if_true]
      exact ⟨h.1, ih⟩
    | false =>
      have hni : m.born ∈ seen := Classical.byContradiction fun hh => by rw [notIn_iff.2 hh] at hn; cases hn
      have : (!seen.toArray.contains m.born) = false := by simpa using hni
      rw [this]
      simpa using ih
  | [], _ :: _, h => h.elim
  | _ :: _, [], h => h.elim
theorem allBelow_ok {n : Nat} : ∀ {es es' : List MapEntry}, All2 (EntR e) es es' → allBelow n es = true → ∀ m, m ∈ es' → m.born < n
  | [], [], _, _, m, hm => by simp at hm
  | m0 :: es, m' :: es', h, ha, m, hm => by
    change (match Nat.blt m0.born n with
      | true => allBelow n es
      | false => false) = true at ha
    split at ha
    · rename_i hb
      rcases List.mem_cons.1 hm with rfl | hm
      · rw [h.1.2.1]; exact blt_iff.1 hb
      · exact allBelow_ok h.2 ha m hm
    · cases ha
  | [], _ :: _, h, _, _, _ => h.elim
  | _ :: _, [], h, _, _, _ => h.elim
theorem orUnk_vr {v : Value} : VR e (orUnk v) v := by
  unfold orUnk
  split
  · rename_i h; exact VR.of6 h
  · exact .any _

/-- what one outcome of an operation is worth -/
def Out (x : Cx) (e : Env) (S : AS) (w : World) (s : Sem Value) (r : Value × AS) : Prop := ∃ v' e1 w1, s.run x.P w = .ok v' w1 ∧ Stp x e S w e1 r.2 w1 ∧ VR e1 r.1 v'
theorem rangeV_ok (h : Rel x e S w) {t : TypeId} {m m' : Value} (hm : VR e m m') {r : Value × AS} (hr : rangeV x t m S = some r) : Out x e S w (Instr.range t m') r := by
  unfold rangeV at hr
  split at hr
  · rename_i i
    split at hr
    · rename_i k el hu
      split at hr
      · rename_i es clock hg
        cases hr
        obtain ⟨b, sh, hb, rfl⟩ := VR.map_inv hm
        obtain ⟨b', sh', o', h1, h2, h3, _⟩ := h.obj i _ hg
        rw [hb] at h1; cases h1
        cases h3 with
        | map _ es' _ hes =>
        have hob : ObjR (e.add S.next w.heap.size 0 (sizeOfObj (.mapIter (some b) clock #[] clock))) (.iter i clock [] clock) (.mapIter (some b) clock #[] clock) 0 :=
          .iter i clock [] clock b 0 ((Env.le_add (h.fresh _ (Nat.le_refl _))).blk _ _ hb)
        exact ⟨_, _, _, run_range_map w t k el b es' clock hu h2, Stp.new h _ _ hob, .ptr _ _ _ _ (by simp [Env.add])⟩
      · cases hr
    · cases hr
  · cases hr
theorem iter_inv (h : Rel x e S w) {it it' : Value} (hv : VR e it it') {ad : Addr} (hit : it = .pointer (some ad)) (_ : ad.spot = none) (ho : ad.off = 0) {m since last : Nat} {seen : List Nat} (hg : S.heap.get ad.block = some (.iter m since seen last)) :
    ∃ b bm shm, it' = .pointer (some ⟨b, 0, none⟩) ∧ e.blk ad.block = some (b, 0) ∧ w.heap[b]? = some (.mapIter (some bm) since seen.toArray last) ∧ e.blk m = some (bm, shm) := by
  subst hit
  obtain ⟨b, sh, h1, _, rfl⟩ := VR.ptr_inv hv
  obtain ⟨b', sh', o', h2, h3, h4, _⟩ := h.obj _ _ hg
  rw [h1] at h2; cases h2
  cases h4 with
  | iter _ _ _ _ bm shm hm => exact ⟨b, bm, shm, by rw [ho], h1, h3, hm⟩
theorem map_of (h : Rel x e S w) {m bm shm : Nat} (hm : e.blk m = some (bm, shm)) {es : List MapEntry} {clock : Nat} (hg : S.heap.get m = some (.map es clock)) :
    ∃ es' : Array MapEntry, w.heap[bm]? = some (.map es' clock) ∧ All2 (EntR e) es es'.toList := by
  obtain ⟨b', sh', o', h2, h3, h4, _⟩ := h.obj _ _ hg
  rw [hm] at h2; cases h2
  cases h4 with
  | map _ es' _ hes => exact ⟨es', h3, hes⟩
theorem nexts_at {r m since clock : Nat} {seen : List Nat} {S : AS} : ∀ {l : List MapEntry} {k : Nat} {en : MapEntry}, l[k]? = some en →
    (.tuple #[.bool true, orUnk en.key, en.val], { S with heap := S.heap.set r (some (.iter m since (seen ++ [en.born]) clock)) }) ∈ nexts r m since seen clock S l
  | [], k, en, h => by simp at h
  | e0 :: l, 0, en, h => by
    simp at h
    subst h
    exact List.mem_cons_self ..
  | e0 :: l, k + 1, en, h => by
    simp at h
    exact List.mem_cons_of_mem _ (nexts_at h)
theorem nextV_ok (h : Rel x e S w) {it it' : Value} (hv : VR e it it') {l : List (Value × AS)} (hr : nextV it S = some l) (ty : TypeId) : ∃ r, r ∈ l ∧ Out x e S w (Instr.next it' false ty) r := by
  unfold nextV at hr
  split at hr
  · rename_i ad
    split at hr
    · cases hr
    · rename_i hs
      split at hr
      · cases hr
      · rename_i ho
        split at hr
        · rename_i m since seen last hg
          obtain ⟨b, bm, shm, rfl, hb, hw, hbm⟩ := iter_inv h hv rfl hs ho hg
          split at hr
          · rename_i es clock hgm
            obtain ⟨es', hwm, hes⟩ := map_of h hbm hgm
            split at hr
            · rename_i hbelow
              split at hr
              · rename_i hle
                cases hr
                have hold := allBelow_ok hes hbelow
                have hsc := ble_iff.1 hle
                have hleft := left_all2 (seen := seen) hes
                have htest := next_test_false seen.toArray es' since last hold hsc
                have hfil : (es'.filter fun m => !seen.toArray.contains m.born).toList = es'.toList.filter fun m => !seen.toArray.contains m.born := by simp
                generalize hL : (es'.filter fun m => !seen.toArray.contains m.born) = L at hfil
                rw [← hfil] at hleft
                have hmem : ∀ m, m ∈ L.toList → m.born < since := fun m hm => by
                  rw [hfil] at hm
                  exact hold m (List.mem_filter.1 hm).1
                have e1 : L.filter (fun m => decide (m.born < since)) = L := Array.filter_eq_self.2 (fun m hm => by simpa using hmem m (by simpa using hm))
                have e2 : L.filter (fun m => decide (m.born ≥ since)) = #[] := by
                  rw [Array.filter_eq_empty_iff]
                  intro m hm
                  have := hmem m (by simpa using hm)
                  simp; omega
                have hblt : b < w.heap.size := (Array.getElem?_eq_some_iff.1 hw).1
                have hrun : (Instr.next (.pointer (some ⟨b, 0, none⟩)) false ty).run x.P w =
                    ((choose (.mapNext ((if L.isEmpty then #[none] else #[]) ++ L.map some).size)).run x.P w).andThen fun j w1 => (match ((if L.isEmpty then #[none] else #[]) ++ L.map some)[j]? with
                      | some (some en) => (do setObj b (.mapIter (some bm) since (seen.toArray.push en.born) clock); pure (.tuple #[.bool true, en.key, en.val]) : Sem Value)
                      | some none => pure (.tuple #[.bool false])
                      | none => stuck "Next: no such candidate").run x.P w1 := by
                  simp only [Instr.next, getObj, Sem.run_bind, Sem.run, hw, hwm, Result.andThen, htest, Bool.false_eq_true, if_false, hL, e1, e2, Array.append_empty]
                  rfl
                by_cases h0 : L.size = 0
                · have hLe : L = #[] := Array.eq_empty_of_size_eq_zero h0
                  subst hLe
                  have hnil : leftL seen es = [] := by
                    have := hleft.length
                    simp at this
                    exact this
                  refine ⟨(.tuple #[.bool false], S), by rw [hnil]; exact List.mem_singleton.2 rfl, .tuple #[.bool false], e, w, ?_, .refl h, .ground _ 2 rfl⟩
                  rw [hrun]
                  simp [choose, Sem.run, Question.forced]
                · have hne : L.isEmpty = false := by simp [Array.isEmpty, h0]
                  simp only [hne, Bool.false_eq_true, if_false, Array.empty_append, Array.size_map] at hrun
                  have hch : ∃ (j : Nat) (w1 : World), j < L.size ∧ (w1 = w ∨ w1 = { w with drawn := w.drawn + 1 }) ∧ (choose (Question.mapNext L.size)).run x.P w = .ok j w1 := by
                    by_cases hf : L.size ≤ 1
                    · exact ⟨0, w, by omega, .inl rfl, by simp [choose, Sem.run, Question.forced, hf]⟩
                    · exact ⟨_, _, Nat.mod_lt _ (by omega), .inr rfl, by
                        simp only [choose, Sem.run, Question.forced, decide_eq_true_eq, hf, if_false, Question.cut]
                        rfl⟩
                  obtain ⟨j, w1, hj, hw1, hcr⟩ := hch
                  have hst1 : Stp x e S w e S w1 := by
                    rcases hw1 with rfl | rfl
                    · exact .refl h
                    · exact .drew h
                  have hheap : w1.heap = w.heap := by rcases hw1 with rfl | rfl <;> rfl
                  have hlen := hleft.length
                  have hjl : j < (leftL seen es).length := by rw [hlen]; simpa using hj
                  have hen : (leftL seen es)[j]? = some (leftL seen es)[j] := List.getElem?_eq_getElem hjl
                  obtain ⟨en', hen', hk, hbo, hval⟩ := hleft.get hen
                  have hLj : L[j] = en' := by
                    rw [Array.getElem?_toList, Array.getElem?_eq_getElem hj] at hen'
                    exact Option.some.inj hen'
                  refine ⟨(.tuple #[.bool true, orUnk ((leftL seen es)[j]).key, ((leftL seen es)[j]).val], { S with heap := S.heap.set ad.block (some (.iter m since (seen ++ [((leftL seen es)[j]).born]) clock)) }), ?_, .tuple #[.bool true, en'.key, en'.val], e, { w1 with heap := w1.heap.setIfInBounds b (.mapIter (some bm) since (seen.toArray.push en'.born) clock) }, ?_, hst1.trans (Stp.upd (w1 := { w1 with heap := w1.heap.setIfInBounds b (.mapIter (some bm) since (seen.toArray.push en'.born) clock) }) (i := ad.block) (ob1 := .mapIter (some bm) since (seen.toArray.push en'.born) clock) (o1 := .iter m since (seen ++ [((leftL seen es)[j]).born]) clock) hst1.rel hg hb (by rw [hheap]; exact hw) ?_ ?_ (fun c el fz hc => by cases hc) ?_ ?_ ⟨rfl, rfl, rfl⟩), ?_⟩
                  · have := nexts_at (r := ad.block) (m := m) (since := since) (clock := clock) (seen := seen) (S := S) hen
                    unfold nextL
                    split
                    · rename_i hnil; rw [hnil] at hjl; simp at hjl
                    · exact this
                  · rw [hrun, hcr]
                    simp only [Array.getElem?_map, Array.getElem?_eq_getElem hj, Option.map_some, hLj, Sem.run_bind, setObj, Sem.run, hheap, hw, Result.andThen]
                    rfl
                  · show (w1.heap.setIfInBounds b _)[b]? = _
                    rw [hheap]; simp [hblt]
                  · have : seen.toArray.push en'.born = (seen ++ [((leftL seen es)[j]).born]).toArray := by rw [hbo]; simp
                    rw [this]
                    exact .iter m since _ clock bm shm hbm
                  · intro k hk
                    show (w1.heap.setIfInBounds b _)[k]? = _
                    rw [Array.getElem?_setIfInBounds_ne (Ne.symm hk)]
                  · show (w1.heap.setIfInBounds b _).size = _
                    simp
                  · refine .tuple _ _ rfl fun i v v' hv hv' => ?_
                    have hi : i < 3 := by have := (Array.getElem?_eq_some_iff.1 hv').1; simpa using this
                    rcases (show i = 0 ∨ i = 1 ∨ i = 2 by omega) with rfl | rfl | rfl
                    · simp at hv hv'; subst hv; subst hv'; exact .bool true
                    · simp at hv hv'; subst hv; subst hv'; rw [hk]; exact orUnk_vr
                    · simp at hv hv'; subst hv; subst hv'; exact hval
              · cases hr
            · cases hr
          · cases hr
        · cases hr
  · cases hr
theorem lastN_ok : ∀ {l : List Nat} {n : Nat}, lastN l = some n → l.toArray.back? = some n
  | [], _, h => by cases h
  | a :: l, n, h => by
    change (match lastN l with
      | some b => some b
      | none => some a) = some n at h
    split at h
    · rename_i b hb
      cases h
      have := lastN_ok hb
      rw [List.back?_toArray] at this ⊢
      cases l with
      | nil => simp at this
      | cons c l => simpa using this
    · rename_i hb
      cases h
      cases l with
      | nil => rfl
      | cons c l =>
        exfalso
        change (match lastN l with
          | some b => some b
          | none => some c) = none at hb
        split at hb <;> cases hb
theorem findBorn_ok {n : Nat} : ∀ {es es' : List MapEntry}, All2 (EntR e) es es' → ∀ {en : MapEntry}, findBorn n es = some en → ∃ en', es'.find? (·.born == n) = some en' ∧ EntR e en en'
  | [], [], _, en, h => by cases h
  | m :: es, m' :: es', h, en, hf => by
    change (match Nat.beq m.born n with
      | true => some m
      | false => findBorn n es) = some en at hf
    split at hf
    · rename_i hb
      cases hf
      refine ⟨m', ?_, h.1⟩
      rw [List.find?_cons, h.1.2.1, beq_iff.1 hb]
      simp
    · rename_i hb
      obtain ⟨en', h1, h2⟩ := findBorn_ok h.2 hf
      refine ⟨en', ?_, h2⟩
      rw [List.find?_cons, h.1.2.1]
      have : (m.born == n) = false := by
        cases hc : m.born == n with
        | false => rfl
        | true => rw [beq_iff.2 (eq_of_beq hc)] at hb; cases hb
      rw [this]; exact h1
  | [], _ :: _, h, _, _ => h.elim
  | _ :: _, [], h, _, _ => h.elim
theorem entryV_ok (h : Rel x e S w) {it it' : Value} (hv : VR e it it') {r : Value × AS} (hr : entryV it S = some r) : Out x e S w (Instr.entry it') r := by
  unfold entryV at hr
  split at hr
  · rename_i ad
    split at hr
    · cases hr
    · rename_i hs
      split at hr
      · cases hr
      · rename_i ho
        split at hr
        · rename_i m since seen last hg
          obtain ⟨b, bm, shm, rfl, hb, hw, hbm⟩ := iter_inv h hv rfl hs ho hg
          split at hr
          · rename_i st hst
            split at hr
            · rename_i es clock hgm
              obtain ⟨es', hwm, hes⟩ := map_of h hbm hgm
              split at hr
              · rename_i hck
                split at hr
                · rename_i en hen
                  cases hr
                  obtain ⟨en', h1, hk, hbo, hval⟩ := findBorn_ok hes hen
                  have hcl := beq_iff.1 hck
                  subst hcl
                  refine ⟨.tuple #[en'.key, en'.val], e, w, ?_, .refl h, ?_⟩
                  · have hf : es'.find? (·.born == st) = some en' := by rw [← Array.find?_toList]; exact h1
                    simp only [Instr.entry, getObj, Sem.run_bind, Sem.run, hw, hwm, Result.andThen, lastN_ok hst, bne_self_eq_false, Bool.false_eq_true, if_false, hf]
                    rfl
                  · refine .tuple _ _ rfl fun i v v' hv hv' => ?_
                    have hi : i < 2 := by have := (Array.getElem?_eq_some_iff.1 hv').1; simpa using this
                    rcases (show i = 0 ∨ i = 1 by omega) with rfl | rfl
                    · simp at hv hv'; subst hv; subst hv'; rw [hk]; exact orUnk_vr
                    · simp at hv hv'; subst hv; subst hv'; exact hval
                · cases hr
              · cases hr
            · cases hr
          · cases hr
        · cases hr
  · cases hr
end Go.X
