import Derived.Test.YtaknejhfphalaaaGreatDoorXHook
import Derived.Laws.IdiomRangeMap
/-
  Part thirty: loops over maps, entry by entry in whatever order.
-/
namespace Go.X
open Go
variable {x : Cx} {e : Env} {S : AS} {w : World} {N : Nat} {f : Fr} {a : Act}

theorem notIn_iff {i : Nat} : ∀ {l : List Nat}, notIn i l = true ↔ i ∉ l
  | [] => by simp [notIn]
  | j :: l => by
    have ih := notIn_iff (i := i) (l := l)
    have hd : notIn i (j :: l) = (match Nat.beq i j with
      | true => false
      | false => notIn i l) := rfl
    rw [hd]
    cases hb : Nat.beq i j with
    | true => simp [beq_iff.1 hb]
    | false =>
      have : i ≠ j := fun hh => by rw [beq_iff.2 hh] at hb; cases hb
      simp only [List.mem_cons, not_or]
      exact ⟨fun h => ⟨this, ih.1 h⟩, fun h => ih.2 h.2⟩
theorem left_all2 {seen : List Nat} : ∀ {es es' : List MapEntry}, All2 (EntR e) es es' → All2 (EntR e) (leftL seen es) (es'.filter fun m => !seen.toArray.contains m.born)
  | [], [], _ => trivial
  | m :: es, m' :: es', h => by
    have ih := left_all2 (seen := seen) h.2
    have hd : leftL seen (m :: es) = (match notIn m.born seen with
      | true => m :: leftL seen es
      | false => leftL seen es) := rfl
    rw [hd, List.filter_cons, h.1.2.1]
    cases hn : notIn m.born seen with
    | true =>
      have hni := notIn_iff.1 hn
      have : (!seen.toArray.contains m.born) = true := by simpa using hni
      rw [this]
      simp only [if_true]
      exact ⟨h.1, ih⟩
    | false =>
      have hni : m.born ∈ seen := Classical.byContradiction fun hh => by rw [notIn_iff.2 hh] at hn; cases hn
      have : (!seen.toArray.contains m.born) = false := by simpa using hni
      rw [this]
      simpa using ih
  | [], _ :: _, h => h.elim
  | _ :: _, [], h => h.elim
theorem allBelow_ok {n : Nat} : ∀ {es es' : List MapEntry}, All2 (EntR e) es es' → allBelow n es = true → ∀ m, m ∈ es' → m.born < n
  | [], [], _, _, m, hm => by simp at hm
  | m0 :: es, m' :: es', h, ha, m, hm => by
    change (match Nat.blt m0.born n with
      | true => allBelow n es
      | false => false) = true at ha
    split at ha
    · rename_i hb
      rcases List.mem_cons.1 hm with rfl | hm
      · rw [h.1.2.1]; exact blt_iff.1 hb
      · exact allBelow_ok h.2 ha m hm
    · cases ha
  | [], _ :: _, h, _, _, _ => h.elim
  | _ :: _, [], h, _, _, _ => h.elim
theorem orUnk_vr {v : Value} : VR e (orUnk v) v := by
  unfold orUnk
  split
  · rename_i h; exact VR.of6 h
  · exact .any _

/-- what one outcome of an operation is worth -/
def Out (x : Cx) (e : Env) (S : AS) (w : World) (s : Sem Value) (r : Value × AS) : Prop := ∃ v' e1 w1, s.run x.P w = .ok v' w1 ∧ Stp x e S w e1 r.2 w1 ∧ VR e1 r.1 v'
theorem rangeV_ok (h : Rel x e S w) {t : TypeId} {m m' : Value} (hm : VR e m m') {r : Value × AS} (hr : rangeV x t m S = some r) : Out x e S w (Instr.range t m') r := by
  unfold rangeV at hr
  split at hr
  · rename_i i
    split at hr
    · rename_i k el hu
      split at hr
      · rename_i es clock hg
        cases hr
        obtain ⟨b, sh, hb, rfl⟩ := VR.map_inv hm
        obtain ⟨b', sh', o', h1, h2, h3, _⟩ := h.obj i _ hg
        rw [hb] at h1; cases h1
        cases h3 with
        | map _ es' _ hes =>
        have hob : ObjR (e.add S.next w.heap.size 0 (sizeOfObj (.mapIter (some b) clock #[] clock))) (.iter i clock [] clock) (.mapIter (some b) clock #[] clock) 0 :=
          .iter i clock [] clock b 0 ((Env.le_add (h.fresh _ (Nat.le_refl _))).blk _ _ hb)
        exact ⟨_, _, _, run_range_map w t k el b es' clock hu h2, Stp.new h _ _ hob, .ptr _ _ _ _ (by simp [Env.add])⟩
      · cases hr
    · cases hr
  · cases hr
theorem iter_inv (h : Rel x e S w) {it it' : Value} (hv : VR e it it') {ad : Addr} (hit : it = .pointer (some ad)) (_ : ad.spot = none) (ho : ad.off = 0) {m since last : Nat} {seen : List Nat} (hg : S.heap.get ad.block = some (.iter m since seen last)) :
    ∃ b bm shm, it' = .pointer (some ⟨b, 0, none⟩) ∧ e.blk ad.block = some (b, 0) ∧ w.heap[b]? = some (.mapIter (some bm) since seen.toArray last) ∧ e.blk m = some (bm, shm) := by
  subst hit
  obtain ⟨b, sh, h1, _, rfl⟩ := VR.ptr_inv hv
  obtain ⟨b', sh', o', h2, h3, h4, _⟩ := h.obj _ _ hg
  rw [h1] at h2; cases h2
  cases h4 with
  | iter _ _ _ _ bm shm hm => exact ⟨b, bm, shm, by rw [ho], h1, h3, hm⟩
theorem map_of (h : Rel x e S w) {m bm shm : Nat} (hm : e.blk m = some (bm, shm)) {es : List MapEntry} {clock : Nat} (hg : S.heap.get m = some (.map es clock)) :
    ∃ es' : Array MapEntry, w.heap[bm]? = some (.map es' clock) ∧ All2 (EntR e) es es'.toList := by
  obtain ⟨b', sh', o', h2, h3, h4, _⟩ := h.obj _ _ hg
  rw [hm] at h2; cases h2
  cases h4 with
  | map _ es' _ hes => exact ⟨es', h3, hes⟩
theorem nexts_at {r m since clock : Nat} {seen : List Nat} {S : AS} : ∀ {l : List MapEntry} {k : Nat} {en : MapEntry}, l[k]? = some en →
    (.tuple #[.bool true, orUnk en.key, en.val], { S with heap := S.heap.set r (some (.iter m since (seen ++ [en.born]) clock)) }) ∈ nexts r m since seen clock S l
  | [], k, en, h => by simp at h
  | e0 :: l, 0, en, h => by
    simp at h
    subst h
    exact List.mem_cons_self ..
  | e0 :: l, k + 1, en, h => by
    simp at h
    exact List.mem_cons_of_mem _ (nexts_at h)
theorem nextV_ok (h : Rel x e S w) {it it' : Value} (hv : VR e it it') {l : List (Value × AS)} (hr : nextV it S = some l) (ty : TypeId) : ∃ r, r ∈ l ∧ Out x e S w (Instr.next it' false ty) r := by
  unfold nextV at hr
  split at hr
  · rename_i ad
    split at hr
    · cases hr
    · rename_i hs
      split at hr
      · cases hr
      · rename_i ho
        split at hr
        · rename_i m since seen last hg
          obtain ⟨b, bm, shm, rfl, hb, hw, hbm⟩ := iter_inv h hv rfl hs ho hg
          split at hr
          · rename_i es clock hgm
            obtain ⟨es', hwm, hes⟩ := map_of h hbm hgm
            split at hr
            · rename_i hbelow
              split at hr
              · rename_i hle
                cases hr
                have hold := allBelow_ok hes hbelow
                have hsc := ble_iff.1 hle
                have hleft := left_all2 (seen := seen) hes
                have htest := next_test_false seen.toArray es' since last hold hsc
                have hfil : (es'.filter fun m => !seen.toArray.contains m.born).toList = es'.toList.filter fun m => !seen.toArray.contains m.born := by simp
                generalize hL : (es'.filter fun m => !seen.toArray.contains m.born) = L at hfil
                rw [← hfil] at hleft
                have hmem : ∀ m, m ∈ L.toList → m.born < since := fun m hm => by
                  rw [hfil] at hm
                  exact hold m (List.mem_filter.1 hm).1
                have e1 : L.filter (fun m => decide (m.born < since)) = L := Array.filter_eq_self.2 (fun m hm => by simpa using hmem m (by simpa using hm))
                have e2 : L.filter (fun m => decide (m.born ≥ since)) = #[] := by
                  rw [Array.filter_eq_empty_iff]
                  intro m hm
                  have := hmem m (by simpa using hm)
                  simp; omega
                have hblt : b < w.heap.size := (Array.getElem?_eq_some_iff.1 hw).1
                have hrun : (Instr.next (.pointer (some ⟨b, 0, none⟩)) false ty).run x.P w =
                    ((choose (.mapNext ((if L.isEmpty then #[none] else #[]) ++ L.map some).size)).run x.P w).andThen fun j w1 => (match ((if L.isEmpty then #[none] else #[]) ++ L.map some)[j]? with
                      | some (some en) => (do setObj b (.mapIter (some bm) since (seen.toArray.push en.born) clock); pure (.tuple #[.bool true, en.key, en.val]) : Sem Value)
                      | some none => pure (.tuple #[.bool false])
                      | none => stuck "Next: no such candidate").run x.P w1 := by
                  simp only [Instr.next, getObj, Sem.run_bind, Sem.run, hw, hwm, Result.andThen, htest, Bool.false_eq_true, if_false, hL, e1, e2, Array.append_empty]
                  rfl
                by_cases h0 : L.size = 0
                · have hLe : L = #[] := Array.eq_empty_of_size_eq_zero h0
                  subst hLe
                  have hnil : leftL seen es = [] := by
                    have := hleft.length
                    simp at this
                    exact this
                  refine ⟨(.tuple #[.bool false], S), by rw [hnil]; exact List.mem_singleton.2 rfl, .tuple #[.bool false], e, w, ?_, .refl h, .ground _ 2 rfl⟩
                  rw [hrun]
                  simp [choose, Sem.run, Question.forced]
                · have hne : L.isEmpty = false := by simp [Array.isEmpty, h0]
                  simp only [hne, Bool.false_eq_true, if_false, Array.empty_append, Array.size_map] at hrun
                  have hch : ∃ (j : Nat) (w1 : World), j < L.size ∧ (w1 = w ∨ w1 = { w with drawn := w.drawn + 1 }) ∧ (choose (Question.mapNext L.size)).run x.P w = .ok j w1 := by
                    by_cases hf : L.size ≤ 1
                    · exact ⟨0, w, by omega, .inl rfl, by simp [choose, Sem.run, Question.forced, hf]⟩
                    · exact ⟨_, _, Nat.mod_lt _ (by omega), .inr rfl, by
                        simp only [choose, Sem.run, Question.forced, decide_eq_true_eq, hf, if_false, Question.cut]
                        rfl⟩
                  obtain ⟨j, w1, hj, hw1, hcr⟩ := hch
                  have hst1 : Stp x e S w e S w1 := by
                    rcases hw1 with rfl | rfl
                    · exact .refl h
                    · exact .drew h
                  have hheap : w1.heap = w.heap := by rcases hw1 with rfl | rfl <;> rfl
                  have hlen := hleft.length
                  have hjl : j < (leftL seen es).length := by rw [hlen]; simpa using hj
                  have hen : (leftL seen es)[j]? = some (leftL seen es)[j] := List.getElem?_eq_getElem hjl
                  obtain ⟨en', hen', hk, hbo, hval⟩ := hleft.get hen
                  have hLj : L[j] = en' := by
                    rw [Array.getElem?_toList, Array.getElem?_eq_getElem hj] at hen'
                    exact Option.some.inj hen'
                  refine ⟨(.tuple #[.bool true, orUnk ((leftL seen es)[j]).key, ((leftL seen es)[j]).val], { S with heap := S.heap.set ad.block (some (.iter m since (seen ++ [((leftL seen es)[j]).born]) clock)) }), ?_, .tuple #[.bool true, en'.key, en'.val], e, { w1 with heap := w1.heap.setIfInBounds b (.mapIter (some bm) since (seen.toArray.push en'.born) clock) }, ?_, hst1.trans (Stp.upd (w1 := { w1 with heap := w1.heap.setIfInBounds b (.mapIter (some bm) since (seen.toArray.push en'.born) clock) }) (i := ad.block) (ob1 := .mapIter (some bm) since (seen.toArray.push en'.born) clock) (o1 := .iter m since (seen ++ [((leftL seen es)[j]).born]) clock) hst1.rel hg hb (by rw [hheap]; exact hw) ?_ ?_ (fun c el fz hc => by cases hc) ?_ ?_ ⟨rfl, rfl, rfl⟩), ?_⟩
                  · have := nexts_at (r := ad.block) (m := m) (since := since) (clock := clock) (seen := seen) (S := S) hen
                    unfold nextL
                    split
                    · rename_i hnil; rw [hnil] at hjl; simp at hjl
                    · exact this
                  · rw [hrun, hcr]
                    simp only [Array.getElem?_map, Array.getElem?_eq_getElem hj, Option.map_some, hLj, Sem.run_bind, setObj, Sem.run, hheap, hw, Result.andThen]
                    rfl
                  · show (w1.heap.setIfInBounds b _)[b]? = _
                    rw [hheap]; simp [hblt]
                  · have : seen.toArray.push en'.born = (seen ++ [((leftL seen es)[j]).born]).toArray := by rw [hbo]; simp
                    rw [this]
                    exact .iter m since _ clock bm shm hbm
                  · intro k hk
                    show (w1.heap.setIfInBounds b _)[k]? = _
                    rw [Array.getElem?_setIfInBounds_ne (Ne.symm hk)]
                  · show (w1.heap.setIfInBounds b _).size = _
                    simp
                  · refine .tuple _ _ rfl fun i v v' hv hv' => ?_
                    have hi : i < 3 := by have := (Array.getElem?_eq_some_iff.1 hv').1; simpa using this
                    rcases (show i = 0 ∨ i = 1 ∨ i = 2 by omega) with rfl | rfl | rfl
                    · simp at hv hv'; subst hv; subst hv'; exact .bool true
                    · simp at hv hv'; subst hv; subst hv'; rw [hk]; exact orUnk_vr
                    · simp at hv hv'; subst hv; subst hv'; exact hval
              · cases hr
            · cases hr
          · cases hr
        · cases hr
  · cases hr
theorem lastN_ok : ∀ {l : List Nat} {n : Nat}, lastN l = some n → l.toArray.back? = some n
  | [], _, h => by cases h
  | a :: l, n, h => by
    change (match lastN l with
      | some b => some b
      | none => some a) = some n at h
    split at h
    · rename_i b hb
      cases h
      have := lastN_ok hb
      rw [List.back?_toArray] at this ⊢
      cases l with
      | nil => simp at this
      | cons c l => simpa using this
    · rename_i hb
      cases h
      cases l with
      | nil => rfl
      | cons c l =>
        exfalso
        change (match lastN l with
          | some b => some b
          | none => some c) = none at hb
        split at hb <;> cases hb
theorem findBorn_ok {n : Nat} : ∀ {es es' : List MapEntry}, All2 (EntR e) es es' → ∀ {en : MapEntry}, findBorn n es = some en → ∃ en', es'.find? (·.born == n) = some en' ∧ EntR e en en'
  | [], [], _, en, h => by cases h
  | m :: es, m' :: es', h, en, hf => by
    change (match Nat.beq m.born n with
      | true => some m
      | false => findBorn n es) = some en at hf
    split at hf
    · rename_i hb
      cases hf
      refine ⟨m', ?_, h.1⟩
      rw [List.find?_cons, h.1.2.1, beq_iff.1 hb]
      simp
    · rename_i hb
      obtain ⟨en', h1, h2⟩ := findBorn_ok h.2 hf
      refine ⟨en', ?_, h2⟩
      rw [List.find?_cons, h.1.2.1]
      have : (m.born == n) = false := by
        cases hc : m.born == n with
        | false => rfl
        | true => rw [beq_iff.2 (eq_of_beq hc)] at hb; cases hb
      rw [this]; exact h1
  | [], _ :: _, h, _, _ => h.elim
  | _ :: _, [], h, _, _ => h.elim
theorem entryV_ok (h : Rel x e S w) {it it' : Value} (hv : VR e it it') {r : Value × AS} (hr : entryV it S = some r) : Out x e S w (Instr.entry it') r := by
  unfold entryV at hr
  split at hr
  · rename_i ad
    split at hr
    · cases hr
    · rename_i hs
      split at hr
      · cases hr
      · rename_i ho
        split at hr
        · rename_i m since seen last hg
          obtain ⟨b, bm, shm, rfl, hb, hw, hbm⟩ := iter_inv h hv rfl hs ho hg
          split at hr
          · rename_i st hst
            split at hr
            · rename_i es clock hgm
              obtain ⟨es', hwm, hes⟩ := map_of h hbm hgm
              split at hr
              · rename_i hck
                split at hr
                · rename_i en hen
                  cases hr
                  obtain ⟨en', h1, hk, hbo, hval⟩ := findBorn_ok hes hen
                  have hcl := beq_iff.1 hck
                  subst hcl
                  refine ⟨.tuple #[en'.key, en'.val], e, w, ?_, .refl h, ?_⟩
                  · have hf : es'.find? (·.born == st) = some en' := by rw [← Array.find?_toList]; exact h1
                    simp only [Instr.entry, getObj, Sem.run_bind, Sem.run, hw, hwm, Result.andThen, lastN_ok hst, bne_self_eq_false, Bool.false_eq_true, if_false, hf]
                    rfl
                  · refine .tuple _ _ rfl fun i v v' hv hv' => ?_
                    have hi : i < 2 := by have := (Array.getElem?_eq_some_iff.1 hv').1; simpa using this
                    rcases (show i = 0 ∨ i = 1 by omega) with rfl | rfl
                    · simp at hv hv'; subst hv; subst hv'; rw [hk]; exact orUnk_vr
                    · simp at hv hv'; subst hv; subst hv'; exact hval
                · cases hr
              · cases hr
            · cases hr
          · cases hr
        · cases hr
  · cases hr
end Go.X
/-
  Part thirty-one: code outcome by outcome; what the outcomes have in common.
-/
namespace Go.X
open Go
variable {x : Cx} {e : Env} {S : AS} {w : World} {N : Nat} {f : Fr} {a : Act}

theorem bindL_ok {α β : Type} {p : α → Option (List β)} : ∀ {l : List α} {r : List β}, bindL p l = some r → ∀ b, b ∈ l → ∃ s, p b = some s ∧ ∀ c, c ∈ s → c ∈ r
  | [], _, _, b, hb => by simp at hb
  | b0 :: l, r, h, b, hb => by
    change (match p b0 with
      | some r => match bindL p l with
        | some s => some (r ++ s)
        | none => none
      | none => none) = some r at h
    split at h
    · rename_i r0 h0
      split at h
      · rename_i s h1
        cases h
        rcases List.mem_cons.1 hb with rfl | hb
        · exact ⟨r0, h0, fun c hc => List.mem_append_left _ hc⟩
        · obtain ⟨s2, h2, h3⟩ := bindL_ok h1 b hb
          exact ⟨s2, h2, fun c hc => List.mem_append_right _ (h3 c hc)⟩
      · cases h
    · cases h
theorem oneL_ok {α : Type} {a : Option α} {l : List α} (h : oneL a = some l) : ∃ b, a = some b ∧ l = [b] := by
  unfold oneL at h
  split at h
  · rename_i b; cases h; exact ⟨b, rfl, rfl⟩
  · cases h
theorem putAll_ok {s : St} {dst : Option Nat} : ∀ {l : List (Value × AS)} {r : List St}, putAll N s dst l = some r → ∀ p, p ∈ l → ∃ s1, s.put N dst p.1 p.2 = some s1 ∧ s1 ∈ r
  | [], _, _, p, hp => by simp at hp
  | p0 :: l, r, h, p, hp => by
    change (match s.put N dst p0.1 p0.2 with
      | some s1 => match putAll N s dst l with
        | some r => some (s1 :: r)
        | none => none
      | none => none) = some r at h
    split at h
    · rename_i s1 h1
      split at h
      · rename_i r1 h2
        cases h
        rcases List.mem_cons.1 hp with rfl | hp
        · exact ⟨s1, h1, by simp⟩
        · obtain ⟨s2, h3, h4⟩ := putAll_ok h2 p hp
          exact ⟨s2, h3, by simp [h4]⟩
      · cases h
    · cases h
/-- the goal of an operation, guarded or not -/
def OpGoal (x : Cx) (r : Option Nat) (n : Nat) (ops : Array Oper) (o : Oper) (a : Act) (w : World) (K : Act → World → Prop) (Q : Exit → Act → World → Prop) : Prop :=
  if Region.wanted o (yielded ops a.tmps) then o.wpIn (FF r) n x.P a w K Q else (∀ f, o.about x.P w a.eval = some f → (FF r).fn f) ∧ K (a.put o.dst undef) w
theorem stepOp_ok (hx : CxOK x) {call : CallF} (hcall : CallOK x call) {r : Option Nat} {n : Nat} {ops : Array Oper} {o : Oper} {s s1 : St} (hrel : Rel x e s.S w) (hs : SR x e N s a) (h : stepOp x call r.isSome N ops.toList s o = some s1)
    {K : Act → World → Prop} {Q : Exit → Act → World → Prop} (hK : ∀ a1 w1, Aft x e s.S w N s1 a1 w1 → K a1 w1) : OpGoal x r n ops o a w K Q := by
  unfold OpGoal
  unfold stepOp at h
  split at h
  · rename_i b hb
    have hw := wanted_ok hs.fr hb
    split at h
    · simp only [hw, if_true]
      exact doOp_ok hx hcall hrel hs h hK
    · simp only [hw, Bool.false_eq_true, if_false]
      obtain ⟨h3, h4⟩ := hs.put .undef h
      exact ⟨fun _ _ => trivial, hK _ _ ⟨e, by rw [h4]; exact .refl hrel, h3⟩⟩
  · cases h
theorem out_op {r : Option Nat} {n : Nat} {ops : Array Oper} {o : Oper} {s s1 : St} (hs : SR x e N s a) (hg : o.guard = none) {sm : Sem Value} (ho : execOp a.eval o = valueOf sm) {p : Value × AS} (hp : Out x e s.S w sm p)
    (hput : s.put N o.dst p.1 p.2 = some s1) {K : Act → World → Prop} {Q : Exit → Act → World → Prop} (hK : ∀ a1 w1, Aft x e s.S w N s1 a1 w1 → K a1 w1) : OpGoal x r n ops o a w K Q := by
  unfold OpGoal
  have hw : Region.wanted o (yielded ops a.tmps) = true := by unfold Region.wanted; rw [hg]
  simp only [hw, if_true]
  obtain ⟨v', e1, w1, h1, h2, h3⟩ := hp
  obtain ⟨h4, h5⟩ := (hs.mono h2.le).put h3 hput
  exact upon_value (v := v') (w1 := w1) (by rw [ho]; simp [valueOf, h1]) (hK _ _ ⟨e1, by rw [h5]; exact h2, h4⟩)
/-- what is asked of calls whose outcomes are kept apart -/
def RetL (x : Cx) (e : Env) (S : AS) (w : World) (l : List (Value × AS)) (en : Ending) (w1 : World) : Prop := ∃ p, p ∈ l ∧ RetOK x e S w p.1 p.2 en w1
def CallLOK (x : Cx) (callL : CallLF) : Prop := ∀ g args S l, callL g args S = some l → (∃ fn c, x.P.funcs[g]? = some fn ∧ fn.body = some c) ∧ ∀ e w args' n, Rel x e S w → All2 (VR e) args args' → CallsIn (FF none) n x.P g args'.toArray w (RetL x e S w l)
theorem spreadG_ok {g : Value} (h : spreadG x g = true) : ∃ n a b, g = .func (.func n) a b := by
  unfold spreadG at h
  split at h
  · split at h
    · exact ⟨_, _, _, rfl⟩
    · cases h
  · cases h
theorem upon_enterL {r : Option Nat} {n : Nat} {o : Oper} {K : Act → World → Prop} {Q : Exit → Act → World → Prop} {g : Nat} {args : Array Value} {l : List (Value × AS)}
    (hr : (execOp a.eval o).run x.P w = .ok (.enter g args) w) (hc : CallsIn (FF none) (n - 1) x.P g args w (RetL x e S w l))
    (hk : ∀ p, p ∈ l → ∀ v' w1 e1, Stp x e S w e1 p.2 w1 → VR e1 p.1 v' → K (a.put o.dst v') w1) : o.wpIn (FF r) n x.P a w K Q := by
  refine ⟨fun _ _ => trivial, ?_⟩
  rw [sem_at (no_defer hr (fun _ h => by cases h)), hr, Oper.uponIn_enter]
  refine ⟨fun h => (by cases h), ?_⟩
  have hc' : CallsIn (FF r) (n - 1) x.P g args w (RetL x e S w l) := hc
  refine hc'.mono fun en w1 he => ?_
  obtain ⟨p, hp, he⟩ := he
  cases en with
  | returned v' => obtain ⟨e1, h1, h2⟩ := he; exact hk p hp v' w1 e1 h1 h2
  | panicked _ => exact he.elim
  | outgrown => exact he.elim
theorem stepM_ok (hx : CxOK x) {call : CallF} (hcall : CallOK x call) {callL : CallLF} (hcallL : CallLOK x callL) {r : Option Nat} {n : Nat} {ops : Array Oper} {o : Oper} {s : St} {l : List St} (hrel : Rel x e s.S w) (hs : SR x e N s a) (h : stepM x call callL r.isSome N ops.toList s o = some l)
    {K : Act → World → Prop} {Q : Exit → Act → World → Prop} (hK : ∀ s1, s1 ∈ l → ∀ a1 w1, Aft x e s.S w N s1 a1 w1 → K a1 w1) : OpGoal x r n ops o a w K Q := by
  have single : ∀ {g : Option St}, oneL g = some l → (∀ s1, g = some s1 → (∀ a1 w1, Aft x e s.S w N s1 a1 w1 → K a1 w1) → OpGoal x r n ops o a w K Q) → OpGoal x r n ops o a w K Q := fun {g} hg hh => by
    obtain ⟨s1, h1, rfl⟩ := oneL_ok hg
    exact hh s1 h1 (hK s1 (by simp))
  unfold stepM at h
  split at h
  · exact single h fun s1 h1 hk => stepOp_ok hx hcall hrel hs h1 hk
  · rename_i hg
    split at h
    · rename_i t y ho
      refine single h fun s1 h1 hk => ?_
      obtain ⟨v, S1, h2, h3⟩ := putW_inv h1
      exact out_op hs hg (sm := Instr.range t (a.eval y)) (by unfold execOp; rw [ho]) (rangeV_ok hrel (ev_ok hrel hs.fr y) h2) h3 hk
    · rename_i it b ho
      split at h
      · cases h
      · unfold putAllO at h
        split at h
        · rename_i l2 hl2
          obtain ⟨p, hp1, hp2⟩ := nextV_ok hrel (ev_ok hrel hs.fr it) hl2 o.type
          obtain ⟨s1, h3, h4⟩ := putAll_ok h p hp1
          exact out_op hs hg (sm := Instr.next (a.eval it) false o.type) (by unfold execOp; rw [ho]) hp2 h3 (hK s1 h4)
        · cases h
    · rename_i it ho
      refine single h fun s1 h1 hk => ?_
      obtain ⟨v, S1, h2, h3⟩ := putW_inv h1
      exact out_op hs hg (sm := Instr.entry (a.eval it)) (by unfold execOp; rw [ho]) (entryV_ok hrel (ev_ok hrel hs.fr it) h2) h3 hk
    · rename_i c ho
      split at h
      · rename_i hsp
        obtain ⟨g0, fa, fb, hge⟩ := spreadG_ok hsp
        unfold putAllO at h
        split at h
        · rename_i l2 hl2
          unfold callsL at hl2
          rw [hge] at hl2
          simp only at hl2
          cases hcc : c.callee with
          | builtin b => rw [show calleeV x s.f c = unk by unfold calleeV; rw [hcc]] at hge; cases hge
          | invoke p q => rw [show calleeV x s.f c = unk by unfold calleeV; rw [hcc]] at hge; cases hge
          | value y =>
            have hcv : calleeV x s.f c = ev x s.f y := by unfold calleeV; rw [hcc]
            rw [hcv] at hge
            have hgv := ev_ok hrel hs.fr y
            rw [hge] at hgv
            obtain ⟨d1, d2, hy, h1, h2⟩ := VR.func_inv hgv
            have hex := exec_call ho hcc hy
            have hargs : All2 (VR e) (fa.toList ++ (evs x s.f c.args.toList ++ fb.toList)) (d1.toList ++ (c.args.toList.map a.eval ++ d2.toList)) := All2.append h1 (All2.append (evs_ok hrel hs.fr _) h2)
            have harr : (d1 ++ c.args.map a.eval) ++ d2 = (d1.toList ++ (c.args.toList.map a.eval ++ d2.toList)).toArray := by apply Array.ext'; simp
            have hex' : execOp a.eval o = callFunc g0 (d1.toList ++ (c.args.toList.map a.eval ++ d2.toList)).toArray := by
              rw [hex, ← harr]; rfl
            obtain ⟨⟨fn, c0, hf, hb⟩, hcl⟩ := hcallL g0 _ s.S l2 hl2
            have hn : (fn.name == "runtime.NumGoroutine") = false := by simpa using hx.name g0 fn hf
            unfold OpGoal
            have hw : Region.wanted o (yielded ops a.tmps) = true := by unfold Region.wanted; rw [hg]
            simp only [hw, if_true]
            refine upon_enterL (g := g0) (args := (d1.toList ++ (c.args.toList.map a.eval ++ d2.toList)).toArray) ?_ (hcl e w _ (n - 1) hrel hargs) fun p hp v' w1 e1 k1 k2 => ?_
            · rw [hex']
              unfold callFunc
              simp only [Sem.run_bind, run_program, Result.andThen_ok, hf, hn, Bool.false_eq_true, if_false, hb, Option.isNone_some, Sem.run_pure]
            · obtain ⟨s1, h3, h4⟩ := putAll_ok h p hp
              obtain ⟨h5, h6⟩ := (hs.mono k1.le).put k2 h3
              exact hK s1 h4 _ _ ⟨e1, by rw [h6]; exact k1, h5⟩
        · cases h
      · exact single h fun s1 h1 hk => stepOp_ok hx hcall hrel hs h1 hk
    · exact single h fun s1 h1 hk => stepOp_ok hx hcall hrel hs h1 hk
theorem runM_ok (hx : CxOK x) {call : CallF} (hcall : CallOK x call) {callL : CallLF} (hcallL : CallLOK x callL) {r : Option Nat} {n : Nat} {ops : Array Oper} {Q : Exit → Act → World → Prop} : ∀ {l : List Oper} {s : St} {r1 : List St} {e : Env} {a : Act} {w : World},
    Rel x e s.S w → SR x e N s a → runM x call callL r.isSome N ops.toList l s = some r1 → (∀ s1, s1 ∈ r1 → ∀ a1 w1, Aft x e s.S w N s1 a1 w1 → Q .normal a1 w1) → wpListIn (FF r) n x.P ops Q l a w
  | [], s, r1, e, a, w, hrel, hs, hr, hQ => by
    have hr : some [s] = some r1 := hr
    cases hr
    exact hQ s (by simp) a w ⟨e, .refl hrel, hs⟩
  | o :: l, s, r1, e, a, w, hrel, hs, hr, hQ => by
    change (match stepM x call callL r.isSome N ops.toList s o with
      | some l1 => bindL (runM x call callL r.isSome N ops.toList l) l1
      | none => none) = some r1 at hr
    split at hr
    · rename_i l1 h1
      refine stepM_ok hx hcall hcallL hrel hs h1 (K := wpListIn (FF r) n x.P ops Q l) (Q := Q) fun s1 hs1 a1 w1 haft => ?_
      obtain ⟨e1, h3, h4, h5⟩ := haft.rel
      obtain ⟨s2, h6, h7⟩ := bindL_ok hr s1 hs1
      exact runM_ok hx hcall hcallL h3 h4 h6 fun s3 hs3 a2 w2 h8 => hQ s3 (h7 s3 hs3) a2 w2 (h5 _ _ _ h8)
    · cases hr
/-- what is asked of a region that draws one bit -/
def CoinOK (x : Cx) (r : Option Nat) (n N : Nat) : Prop := ∀ (id : Nat) (ops : Array Oper) (d b : Nat) (s : St) (l : List St) (e : Env) (a : Act) (w : World) (Q : Exit → Act → World → Prop), coinOf x ops.toList = some (d, b) →
  Rel x e s.S w → SR x e N s a → coinSts N s d b = some l → (∀ s1, s1 ∈ l → ∀ a1 w1, Aft x e s.S w N s1 a1 w1 → Q .normal a1 w1) → (Code.region id ops true).wpIn (FF r) n x.P Q a w
theorem withN_ok {l : Option (List St)} {r : List (XE × St)} (h : withN l = some r) : ∃ l1, l = some l1 ∧ ∀ s, s ∈ l1 → (XE.normal, s) ∈ r := by
  unfold withN at h
  split at h
  · rename_i l1
    cases h
    exact ⟨l1, rfl, fun s hs => List.mem_map.2 ⟨s, hs, rfl⟩⟩
  · cases h
/-- all outcomes of a stretch of code -/
def Outs (x : Cx) (e : Env) (S : AS) (w : World) (N : Nat) (Q : Exit → Act → World → Prop) (outs : List (XE × St)) : Prop :=
  ∀ p, p ∈ outs → ∀ a1 w1, Aft x e S w N p.2 a1 w1 → Q (exOf p.1) a1 w1
theorem rangeEnds_ok {s : St} {D : Nat} : ∀ {l : List (Value × AS)} {outs : List (XE × St)}, rangeEnds s D l = some outs → ∀ p, p ∈ l → ∃ r, rangeEnd s D p.2 = some r ∧ r ∈ outs
  | [], _, _, p, hp => by simp at hp
  | p0 :: l, r, h, p, hp => by
    change (match rangeEnd s D p0.2 with
      | some r => match rangeEnds s D l with
        | some l => some (r :: l)
        | none => none
      | none => none) = some r at h
    split at h
    · rename_i r1 h1
      split at h
      · rename_i l1 h2
        cases h
        rcases List.mem_cons.1 hp with rfl | hp
        · exact ⟨r1, h1, by simp⟩
        · obtain ⟨r2, h3, h4⟩ := rangeEnds_ok h2 p hp
          exact ⟨r2, h3, by simp [h4]⟩
      · cases h
    · cases h
theorem rangeL_ok (hx : CxOK x) {callL : CallLF} (hcallL : CallLOK x callL) {r : Option Nat} {n : Nat} {g : Operand} {ps : Array Nat} {assign body : Code} {outs : List (XE × St)} {s : St} {Q : Exit → Act → World → Prop} (hrel : Rel x e s.S w) (hs : SR x e N s a)
    (h : rangeL x callL r.isSome N g ps.toList assign body s = some outs) (hQ : Outs x e s.S w N Q outs) : (Code.rangeFunc g ps assign body).wpIn (FF r) n x.P Q a w := by
  unfold rangeL at h
  cases r with
  | some l => cases h
  | none =>
  simp only [Option.isSome_none] at h
  have hgv := ev_ok hrel hs.fr g
  split at h
  · rename_i gf first captured hge
    rw [hge] at hgv
    obtain ⟨d1, d2, hy, hd1, hd2⟩ := hgv.func_inv
    split at h
    · cases h
    · rename_i hbody
      obtain ⟨fn, hf, hb⟩ := hasBody_ok hbody
      have hn : (fn.name == "runtime.NumGoroutine") = false := by simpa using hx.name gf fn hf
      have st1 := Stp.new hrel .deferred (.deferred (some [])) .deferred
      have hle1 := st1.le
      generalize he1 : e.add s.S.next w.heap.size 0 (sizeOfObj (.deferred (some []))) = e1 at st1 hle1
      have hD : e1.blk s.S.next = some (w.heap.size, 0) := by rw [← he1]; simp [Env.add]
      refine wpIn_rangeFunc fun fnid _ => ?_
      have st2 := Stp.new st1.rel (.loop .ready none N s.f ps.toList assign body) (.loop { state := .ready, pending := none, fn := fnid, tmps := a.tmps, params := ps, assign, body, defers := w.heap.size })
        (.loop _ _ _ _ _ _ _ _ rfl rfl (by simp) rfl rfl ((hs.fr.mono hle1).mono (Env.le_add (st1.rel.fresh _ (Nat.le_refl _)))))
      generalize he2 : e1.add (addObj s.S .deferred).next _ 0 _ = e2 at st2
      have hL : e2.blk (Nat.succ s.S.next) = some (w.heap.size + 1, 0) := by rw [← he2]; simp [Env.add, addObj]
      have hst := st1.trans st2
      have hargs : All2 (VR e2) (first.toList ++ ([.func (.yield (Nat.succ s.S.next)) #[] #[]] ++ captured.toList)) (d1.toList ++ ([.func (.yield (w.heap.size + 1)) #[] #[]] ++ d2.toList)) :=
        All2.append (All2.mono (fun _ _ h => h.mono hst.le) hd1) (All2.append (⟨.yield _ _ _ hL, trivial⟩) (All2.mono (fun _ _ h => h.mono hst.le) hd2))
      split at h
      · rename_i l hcv
        let W2 : World := (w.alloc (.deferred (some []))).alloc (.loop { state := .ready, pending := none, fn := fnid, tmps := a.tmps, params := ps, assign, body, defers := w.heap.size })
        refine ⟨w.heap.size + 1, _, W2, { target := .fn (.func gf) d2, args := d1 ++ #[Value.func (.yield (w.heap.size + 1)) #[] #[]] }, W2, gf, (d1.toList ++ ([Value.func (.yield (w.heap.size + 1)) #[] #[]] ++ d2.toList)).toArray, W2,
          run_enterLoop_outer fnid a.tmps ps assign body, ?_, (fun _ _ => trivial), ?_, (fun h => by cases h), ?_⟩
        · have hm : Array.map a.eval #[Operand.const (Value.func (.yield (w.heap.size + 1)) #[] #[])] = #[Value.func (.yield (w.heap.size + 1)) #[] #[]] := by simp [Act.eval]
          simp only [resolve, hy, Deferred.ofValue, hm]
          rfl
        · show (callFunc gf ((d1 ++ #[Value.func (.yield (w.heap.size + 1)) #[] #[]]) ++ d2)).run x.P _ = _
          have harr : (d1 ++ #[Value.func (.yield (w.heap.size + 1)) #[] #[]]) ++ d2 = (d1.toList ++ ([Value.func (.yield (w.heap.size + 1)) #[] #[]] ++ d2.toList)).toArray := by apply Array.ext'; simp
          rw [harr]
          unfold callFunc
          simp only [Sem.run_bind, run_program, Result.andThen_ok, hf, hn, Bool.false_eq_true, if_false, hb, Sem.run_pure]
        · refine ((hcallL gf _ _ l hcv).2 e2 _ _ (n - 1) st2.rel hargs).mono fun en w3 hen => ?_
          obtain ⟨⟨v, S3⟩, hp, hen⟩ := hen
          obtain ⟨⟨ex, s1⟩, h, hin⟩ := rangeEnds_ok h _ hp
          have hQ := hQ _ hin
          cases en with
          | panicked _ => exact hen.elim
          | outgrown => exact hen.elim
          | returned v' =>
          obtain ⟨e3, h3, _⟩ := hen
          unfold rangeEnd at h
          split at h
          · rename_i st pend M f0 ps0 as0 bd0 hg3
            have hL3 := h3.le.blk _ _ hL
            obtain ⟨r0, h4, h5, h6, _, _, _, _, h7⟩ := Stp.putLoop (st1 := .exhausted) (pend1 := pend) h3.rel hg3 hL3
            split at h
            · cases h
            · rename_i hnb
              have hnb' : r0.state ≠ .busy := by rw [h5]; intro hh; exact hnb hh
              have hrun := run_endLoop (P := x.P) h4 hnb'
              have hwe : (w3.putObj (w.heap.size + 1) (.loop { r0 with state := .exhausted, pending := pend })) = w3.putObj (w.heap.size + 1) (.loop { r0 with state := .exhausted }) := by rw [← h6]
              rw [hwe] at h7
              have hall := (hst.trans h3).trans h7
              have hsr : SR x e3 N { f := s.f, ds := .mark s.S.next :: s.ds, S := { S3 with heap := S3.heap.set (Nat.succ s.S.next) (some (.loop .exhausted pend M f0 ps0 as0 bd0)) } }
                  { a with defers := [{ target := .collected w.heap.size, args := #[] }] ++ a.defers } :=
                ⟨hs.fr.mono hall.le, ⟨w.heap.size, 0, h3.le.blk _ _ (st2.le.blk _ _ hD), rfl⟩, All2.mono (fun _ _ h => h.mono hall.le) hs.ds⟩
              split at h
              · cases h
                refine ⟨none, w3.putObj (w.heap.size + 1) (.loop { r0 with state := .exhausted }), hrun.trans (congrArg (fun p => Result.ok p (w3.putObj (w.heap.size + 1) (.loop { r0 with state := .exhausted }))) h6), ?_⟩
                exact hQ _ _ ⟨e3, hall, hsr⟩
              · rename_i c
                split at h
                · rename_i e4 he4
                  cases h
                  refine ⟨some c, w3.putObj (w.heap.size + 1) (.loop { r0 with state := .exhausted }), hrun.trans (congrArg (fun p => Result.ok p (w3.putObj (w.heap.size + 1) (.loop { r0 with state := .exhausted }))) h6), ?_⟩
                  have hq := hQ _ _ ⟨e3, hall, hsr⟩
                  unfold jumpOf at he4
                  split at he4
                  · cases he4; exact wpIn_ret hq
                  · cases he4; exact wpIn_exit hq
                  · cases he4
                · cases h
          · cases h
      · cases h
  · cases h
theorem ycode_ok (hx : CxOK x) {call : CallF} (hcall : CallOK x call) {callL : CallLF} (hcallL : CallLOK x callL) {r : Option Nat} {n : Nat} (hdraw : DrawOK x call r n N) (hrange : RangeOK x call r n N) (hcoin : CoinOK x r n N) : ∀ (k : Nat),
    (∀ (c : Code) (outs : List (XE × St)) (s : St) (e : Env) (a : Act) (w : World) (Q : Exit → Act → World → Prop), Rel x e s.S w → SR x e N s a → ycode x call callL r.isSome N k c s = some outs →
      Outs x e s.S w N Q outs → c.wpIn (FF r) n x.P Q a w) ∧
    (∀ (c : Code) (outs : List (XE × St)) (s : St) (e : Env) (a : Act) (w : World) (Q : Exit → Act → World → Prop), Rel x e s.S w → SR x e N s a → ycode x call callL r.isSome N k (.loop c) s = some outs →
      Outs x e s.S w N Q outs → Code.roundsIn (FF r) n x.P c Q k a w)
  | 0 => by constructor <;> (intro c outs s e a w Q _ _ h _; cases h)
  | k + 1 => by
    obtain ⟨ihc, ihl⟩ := ycode_ok hx hcall hcallL hdraw hrange hcoin k
    -- behind an outcome
    have behind : ∀ {q : St → Option (List (XE × St))} {l outs : List (XE × St)} {p : XE × St}, bindL (afterN q) l = some outs → p ∈ l → (p.1 = .normal → ∃ o2, q p.2 = some o2 ∧ ∀ z, z ∈ o2 → z ∈ outs) ∧ (p.1 ≠ .normal → p ∈ outs) := fun {q l outs p} hb hp => by
      obtain ⟨s2, h1, h2⟩ := bindL_ok hb p hp
      unfold afterN at h1
      refine ⟨fun hn => ?_, fun hn => ?_⟩
      · rw [hn] at h1; exact ⟨s2, h1, h2⟩
      · split at h1
        · rename_i hh; exact absurd hh hn
        · cases h1; exact h2 p (by simp)
    have rounds : ∀ (c : Code) (outs : List (XE × St)) (s : St) (e : Env) (a : Act) (w : World) (Q : Exit → Act → World → Prop), Rel x e s.S w → SR x e N s a → ycode x call callL r.isSome N (k + 1) (.loop c) s = some outs →
        Outs x e s.S w N Q outs → Code.roundsIn (FF r) n x.P c Q (k + 1) a w := by
      intro c outs s e a w Q hrel hs h hQ
      change bindO (afterN (ycode x call callL r.isSome N k (.loop c))) (ycode x call callL r.isSome N k c s) = some outs at h
      rw [roundsIn_succ]
      unfold bindO at h
      split at h
      · rename_i l hl
        refine ihc c l s e a w _ hrel hs hl fun p hp a1 w1 haft => ?_
        obtain ⟨e1, h3, h4, h5⟩ := haft.rel
        obtain ⟨b1, b2⟩ := behind h hp
        obtain ⟨ex, s1⟩ := p
        cases ex with
        | normal =>
          obtain ⟨o2, h6, h7⟩ := b1 rfl
          exact ihl c o2 s1 e1 a1 w1 Q h3 h4 h6 fun z hz a2 w2 h8 => hQ z (h7 z hz) a2 w2 (h5 _ _ _ h8)
        | exit id => exact hQ _ (b2 (by simp)) a1 w1 haft
        | ret => exact hQ _ (b2 (by simp)) a1 w1 haft
      · cases h
    refine ⟨?_, rounds⟩
    intro c outs s e a w Q hrel hs h hQ
    have stay : ∀ ex, outs = [(ex, s)] → Q (exOf ex) a w := fun ex hh => by
      subst hh
      exact hQ (ex, s) (by simp) a w ⟨e, .refl hrel, hs⟩
    cases c with
    | skip => cases h; exact wpIn_skip (stay .normal rfl)
    | label l => cases h; exact wpIn_label (stay .normal rfl)
    | exit id => cases h; exact wpIn_exit (stay (.exit id) rfl)
    | ret => cases h; exact wpIn_ret (stay .ret rfl)
    | seq p q =>
      change bindO (afterN (ycode x call callL r.isSome N k q)) (ycode x call callL r.isSome N k p s) = some outs at h
      refine wpIn_seq ?_
      unfold bindO at h
      split at h
      · rename_i l hl
        refine ihc p l s e a w _ hrel hs hl fun z hz a1 w1 haft => ?_
        obtain ⟨e1, h3, h4, h5⟩ := haft.rel
        obtain ⟨b1, b2⟩ := behind h hz
        obtain ⟨ex, s1⟩ := z
        cases ex with
        | normal =>
          obtain ⟨o2, h6, h7⟩ := b1 rfl
          exact ihc q o2 s1 e1 a1 w1 Q h3 h4 h6 fun z hz a2 w2 h8 => hQ z (h7 z hz) a2 w2 (h5 _ _ _ h8)
        | exit id => exact hQ _ (b2 (by simp)) a1 w1 haft
        | ret => exact hQ _ (b2 (by simp)) a1 w1 haft
      · cases h
    | cond c p q =>
      change (match ev x s.f c with
        | .bool t => match t with
          | true => ycode x call callL r.isSome N k p s
          | false => ycode x call callL r.isSome N k q s
        | _ => none) = some outs at h
      have hv := ev_ok hrel hs.fr c
      split at h
      · rename_i t ht
        rw [ht] at hv
        have hb := hv.bool_inv
        split at h
        · exact wpIn_cond_true hb (ihc p outs s e a w Q hrel hs h hQ)
        · exact wpIn_cond_false hb (ihc q outs s e a w Q hrel hs h hQ)
      · cases h
    | block id c =>
      change (match ycode x call callL r.isSome N k c s with
        | some l => some (l.map (leftBlock id))
        | none => none) = some outs at h
      refine wpIn_block ?_
      split at h
      · rename_i l hl
        cases h
        refine ihc c l s e a w _ hrel hs hl fun z hz a1 w1 haft => ?_
        have hz2 : leftBlock id z ∈ l.map (leftBlock id) := List.mem_map.2 ⟨z, hz, rfl⟩
        obtain ⟨ex, s1⟩ := z
        cases ex with
        | normal => exact hQ _ hz2 a1 w1 haft
        | exit i =>
          show (if i = id then Q .normal a1 w1 else Q (.exit i) a1 w1)
          cases hb : Nat.beq i id with
          | true =>
            rw [if_pos (beq_iff.1 hb)]
            have : leftBlock id (.exit i, s1) = (.normal, s1) := by simp only [leftBlock, hb]
            rw [this] at hz2
            exact hQ _ hz2 a1 w1 haft
          | false =>
            have hne : ¬ i = id := fun hh => by rw [beq_iff.2 hh] at hb; cases hb
            rw [if_neg hne]
            have : leftBlock id (.exit i, s1) = (.exit i, s1) := by simp only [leftBlock, hb]
            rw [this] at hz2
            exact hQ _ hz2 a1 w1 haft
        | ret => exact hQ _ hz2 a1 w1 haft
      · cases h
    | loop c => exact wpIn_loop_rounds (k + 1) (rounds c outs s e a w Q hrel hs h hQ)
    | region id ops draw =>
      cases draw with
      | false =>
        change withN (runM x call callL r.isSome N ops.toList ops.toList s) = some outs at h
        obtain ⟨l, h1, h2⟩ := withN_ok h
        exact wpIn_region_list (runM_ok hx hcall hcallL hrel hs h1 fun s1 hs1 a1 w1 haft => hQ _ (h2 s1 hs1) a1 w1 haft)
      | true =>
        change (match coinOf x ops.toList with
          | some (d, b) => withN (coinSts N s d b)
          | none => withN (oneL (drawOps x call r.isSome N ops.toList s))) = some outs at h
        split at h
        · rename_i d b hc
          obtain ⟨l, h1, h2⟩ := withN_ok h
          exact hcoin id ops d b s l e a w Q hc hrel hs h1 fun s1 hs1 a1 w1 haft => hQ _ (h2 s1 hs1) a1 w1 haft
        · obtain ⟨l, h1, h2⟩ := withN_ok h
          obtain ⟨s1, h3, rfl⟩ := oneL_ok h1
          exact hdraw id ops s s1 e a w Q hrel hs h3 fun a1 w1 haft => hQ _ (h2 s1 (by simp)) a1 w1 haft
    | rangeFunc g ps assign body =>
      change (match spreadG x (ev x s.f g) with
        | true => rangeL x callL r.isSome N g ps.toList assign body s
        | false => oneL (rangeF x call r.isSome N g ps.toList assign body s)) = some outs at h
      split at h
      · exact rangeL_ok hx hcallL hrel hs h hQ
      · obtain ⟨⟨ex, s1⟩, h1, rfl⟩ := oneL_ok h
        exact hrange g ps assign body ex s s1 e a w Q hrel hs h1 fun a1 w1 haft => hQ (ex, s1) (by simp) a1 w1 haft
    | _ => cases h

/-! what heaps have in common -/
theorem keepO_ok {o p : Option AObj} {q : AObj} (h : keepO o p = some q) : o = some q ∧ ∃ p', p = some p' ∧ RO (fun i j => some i = some j) q p' := by
  unfold keepO at h
  split at h
  · split at h
    · split at h
      · rename_i hr
        cases h
        exact ⟨rfl, _, rfl, rnO_ok hr⟩
      · cases h
    · cases h
  · cases h
theorem keepT_ok : ∀ (t t' : PT AObj) (i : Nat) (q : AObj), (keepT t t').get i = some q → t.get i = some q ∧ ∃ p, t'.get i = some p ∧ RO (fun i j => some i = some j) q p
  | .leaf, t', i, q, h => by cases h
  | .node l y r, .leaf, i, q, h => by cases h
  | .node l y r, .node l' y' r', i, q, h => by
    have hd : keepT (.node l y r) (.node l' y' r') = .node (keepT l l') (keepO y y') (keepT r r') := rfl
    rw [hd, PT.get_node] at h
    rw [PT.get_node, PT.get_node]
    by_cases h0 : i = 0
    · simp only [h0, if_true] at h ⊢; exact keepO_ok h
    · simp only [h0, if_false] at h ⊢
      by_cases h1 : i % 2 = 1
      · simp only [h1, if_true] at h ⊢; exact keepT_ok l l' _ q h
      · simp only [h1, if_false] at h ⊢; exact keepT_ok r r' _ q h
/-- less may be known -/
theorem Stp.less {e1 : Env} {S1 S2 : AS} {w1 : World} (h : Stp x e S w e1 S1 w1) (hn : S1.next ≤ S2.next) (hg : ∀ i q, S2.heap.get i = some q → ∃ p, S1.heap.get i = some p ∧ (p = q ∨ RO (fun i j => some i = some j) q p)) : Stp x e S w e1 S2 w1 := by
  have hr : Rn (fun i j => some i = some j) e1 e1 := ⟨fun i j y hij hj => by cases hij; exact hj, fun _ _ h => h⟩
  refine ⟨⟨fun i hi => h.rel.fresh i (by omega), fun i hi => ?_, Nat.le_trans h.rel.next hn, fun i o ho => ?_, fun i j o o' b sh sh' hi hj hbi hbj => ?_, h.rel.size, h.rel.bnd, h.rel.glob, h.rel.gval, h.rel.gsz⟩, h.le, h.os, h.tape, h.output, h.grow, h.keep, fun b hb hl => ?_, Nat.le_trans h.next hn, h.old⟩
  · cases hq : S2.heap.get i with
    | none => rfl
    | some q =>
      obtain ⟨p, h1, _⟩ := hg i q hq
      rw [h.rel.low i hi] at h1; cases h1
  · obtain ⟨p, h1, h2⟩ := hg i o ho
    obtain ⟨b, sh, o', h3, h4, h5, h6⟩ := h.rel.obj i p h1
    refine ⟨b, sh, o', h3, h4, ?_, h6⟩
    rcases h2 with rfl | h2
    · exact h5
    · exact h2.objR hr h5
  · obtain ⟨p, h1, _⟩ := hg i o hi
    obtain ⟨q, h2, _⟩ := hg j o' hj
    exact h.rel.inj i j p q b sh sh' h1 h2 hbi hbj
  · obtain ⟨i, o, sh, hi, hbi⟩ := hl
    obtain ⟨p, h1, _⟩ := hg i o hi
    exact h.live b hb ⟨i, p, sh, h1, hbi⟩
theorem merge2_ok {a b : Value × AS} {v : Value} {S : AS} (h : merge2 a b = some (v, S)) : v = a.1 ∧ v = b.1 ∧ a.2.next ≤ S.next ∧ b.2.next ≤ S.next ∧
    ∀ i q, S.heap.get i = some q → a.2.heap.get i = some q ∧ ∃ p, b.2.heap.get i = some p ∧ RO (fun i j => some i = some j) q p := by
  unfold merge2 at h
  split at h
  · rename_i hv
    cases h
    have hv := veq_ok _ _ _ hv
    refine ⟨rfl, hv, ?_, ?_, fun i q hq => keepT_ok _ _ i q hq⟩
    · show a.2.next ≤ (match Nat.ble a.2.next b.2.next with | true => b.2.next | false => a.2.next)
      split
      · rename_i hb; exact ble_iff.1 hb
      · exact Nat.le_refl _
    · show b.2.next ≤ (match Nat.ble a.2.next b.2.next with | true => b.2.next | false => a.2.next)
      split
      · exact Nat.le_refl _
      · rename_i hb
        rcases Nat.lt_or_ge b.2.next a.2.next with h | h
        · omega
        · rw [ble_iff.2 h] at hb; cases hb
  · cases h
theorem mergeL_ok {a : Value × AS} : ∀ {l : List (Value × AS)} {v : Value} {S : AS}, mergeL a l = some (v, S) → ∀ b, b ∈ a :: l → v = b.1 ∧ b.2.next ≤ S.next ∧ ∀ i q, S.heap.get i = some q → ∃ p, b.2.heap.get i = some p ∧ (p = q ∨ RO (fun i j => some i = some j) q p)
  | [], v, S, h, b, hb => by
    have h : some a = some (v, S) := h
    cases h
    simp at hb
    subst hb
    exact ⟨rfl, Nat.le_refl _, fun i q hq => ⟨q, hq, .inl rfl⟩⟩
  | b0 :: l, v, S, h, b, hb => by
    change (match mergeL a l with
      | some c => merge2 c b0
      | none => none) = some (v, S) at h
    split at h
    · rename_i c hc
      obtain ⟨v2, S2⟩ := c
      obtain ⟨h1, h2, h3, h4, h5⟩ := merge2_ok h
      have ih := mergeL_ok hc
      have hin : b ∈ a :: l ∨ b = b0 := by
        rcases List.mem_cons.1 hb with h | h
        · exact .inl (by simp [h])
        · rcases List.mem_cons.1 h with h | h
          · exact .inr h
          · exact .inl (by simp [h])
      rcases hin with hin | rfl
      · obtain ⟨k1, k2, k3⟩ := ih b hin
        exact ⟨h1.trans k1, Nat.le_trans k2 h3, fun i q hq => k3 i q (h5 i q hq).1⟩
      · exact ⟨h2, h4, fun i q hq => let ⟨p, h6, h7⟩ := (h5 i q hq).2; ⟨p, h6, .inr h7⟩⟩
    · cases h
theorem endsM_ok {dc : Nat → List Value → AS → Option AS} {fn : Func} {l : List (XE × St)} {v : Value} {S : AS} (h : endsM x dc fn l = some (v, S)) : ∀ p, p ∈ l → ∃ q, endM x dc fn p = some q ∧ v = q.1 ∧ q.2.next ≤ S.next ∧
    ∀ i o, S.heap.get i = some o → ∃ p, q.2.heap.get i = some p ∧ (p = o ∨ RO (fun i j => some i = some j) o p) := by
  unfold endsM at h
  split at h
  · rename_i a l2 hb
    intro p hp
    obtain ⟨s, h1, h2⟩ := bindL_ok hb p hp
    obtain ⟨q, h3, rfl⟩ := oneL_ok h1
    exact ⟨q, h3, mergeL_ok h q (h2 q (by simp))⟩
  · cases h
/-- one outcome's way out -/
theorem endM_ok (hx : CxOK x) (hq : QuietOK x) {dc : Nat → List Value → AS → Option AS} (hdc : DcallOK x dc) {n : Nat} {fn : Func} {p : XE × St} {q : Value × AS} (h1 : endM x dc fn p = some q) {R : Ending → World → Prop} {a1 : Act} {w1 : World} (haft : Aft x e S w N p.2 a1 w1)
    (hR : ∀ v' w2 e2, Stp x e S w e2 q.2 w2 → VR e2 q.1 v' → R (.returned v') w2) : bodyPostM (FF none) n x.P fn R (exOf p.1) a1 w1 := by
  obtain ⟨e1, g1, g2⟩ := haft
  obtain ⟨ex, s1⟩ := p
  unfold endM at h1
  have fin : (∀ id, ex ≠ .exit id) → LeavesInM (FF none) n x.P fn a1.tmps R a1.defers .returning w1 := fun hne => by
    have h1' : (match leaveD dc s1.ds s1.S with
      | some S => match resultsV x s1.f S fn.results.toList with
        | some vs => some (one vs, S)
        | none => none
      | none => none) = some q := by
      cases ex with
      | exit id => exact absurd rfl (hne id)
      | normal => exact h1
      | ret => exact h1
    split at h1'
    · rename_i S2 hl
      split at h1'
      · rename_i vs hr
        cases h1'
        refine leave_ok hx hq hdc g1.rel g2.ds hl fun w2 e2 k3 => ?_
        obtain ⟨v', k4, k5⟩ := results_ok k3.rel (g2.fr.mono k3.le) hr
        exact ⟨v', k4, hR v' w2 e2 (g1.trans k3) k5⟩
      · cases h1'
    · cases h1'
  cases ex with
  | normal => exact fin (by simp)
  | ret => exact fin (by simp)
  | exit id => simp at h1
theorem callL_ok (hx : CxOK x) (hq : QuietOK x) {call : CallF} (hcall : CallOK x call) {k : Nat} (hdraw : ∀ n N, DrawOK x call none n N) (hcoin : ∀ n N, CoinOK x none n N) : ∀ m, CallLOK x (xcallL x k call m)
  | 0 => by intro g args S l h; cases h
  | m + 1 => by
    have ih := callL_ok hx hq hcall hdraw hcoin (k := k) m
    intro g args S l h
    change callLFn x k call (xcallL x k call m) g args S = some l at h
    unfold callLFn at h
    split at h
    · rename_i fn hf
      split at h
      · rename_i c hb
        refine ⟨⟨fn, c, hf, hb⟩, fun e w args' n hrel ha => ?_⟩
        split at h
        · rename_i outs hy
          refine callsIn_of_wp_marks hf hb trivial ?_
          refine (ycode_ok hx hcall ih (r := none) (n := n) (hdraw n _) (rangeF_ok hcall hx) (hcoin n _) k).1 c outs { f := enterF 0 args .leaf, ds := [], S := S } e _ w _ hrel ⟨enter_ok ha fn.ntmps, trivial⟩ hy fun p hp a1 w1 haft => ?_
          obtain ⟨s2, h2, h3⟩ := bindL_ok h p hp
          obtain ⟨q, h4, rfl⟩ := oneL_ok h2
          exact endM_ok hx hq (dcall_ok hx hcall hdraw (fun n N => rangeF_ok hcall hx)) h4 haft fun v' w2 e2 k1 k2 => ⟨q, h3 q (by simp), e2, k1, k2⟩
        · cases h
      · cases h
    · cases h
theorem callM_ok (hx : CxOK x) (hq : QuietOK x) {call : CallF} (hcall : CallOK x call) {k : Nat} (hdraw : ∀ n N, DrawOK x call none n N) (hcoin : ∀ n N, CoinOK x none n N) : MultiOK x call k := by
  intro g fn c args S v S1 hf hb h e w args' n hrel ha
  unfold callM at h
  split at h
  · rename_i outs hy
    have hends := endsM_ok h
    refine callsIn_of_wp_marks hf hb trivial ?_
    refine (ycode_ok hx hcall (callL_ok hx hq hcall hdraw hcoin 9) (r := none) (n := n) (hdraw n _) (rangeF_ok hcall hx) (hcoin n _) k).1 c outs { f := enterF 0 args .leaf, ds := [], S := S } e _ w _ hrel ⟨enter_ok ha fn.ntmps, trivial⟩ hy fun p hp a1 w1 haft => ?_
    obtain ⟨q, h1, h2, h3, h4⟩ := hends p hp
    refine endM_ok hx hq (dcall_ok hx hcall hdraw (fun n N => rangeF_ok hcall hx)) h1 haft fun v' w2 e2 k1 k2 => ?_
    exact ⟨e2, k1.less h3 h4, by rw [h2]; exact k2⟩
  · cases h
end Go.X
