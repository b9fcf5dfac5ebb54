import Derived.Test.YtaknejhfphalaaaGreatDoorXDraw3
/-
  Part twenty-four: what the run in the text's order, and the checks, leave in hand (no model here).
-/
namespace Go.X
open Go
variable {x : Cx} {call : CallF} {N : Nat}

/-- the run in the text's order, as rows by number -/
theorem drawGo_cert {ops : List Oper} {rk : Nat → Nat} {wd : Nat} {ms : List Nat} : ∀ (l : List Oper) (i : Nat) (f : Fr) (pd : List (Nat × AObj)) (S : AS) (rs : List DR) (f' : Fr) (S' : AS),
    drawGo x call N ops rk wd ms l i f pd S = some (rs, f', S') → ∃ (F : Nat → Fr) (PD : Nat → List (Nat × AObj)) (HH : Nat → AS), F 0 = f ∧ PD 0 = pd ∧ HH 0 = S ∧ rs.length = l.length ∧ f' = F l.length ∧ S' = takeIn rk (PD l.length) (HH l.length) ∧
      ∀ j o, l[j]? = some o → ∃ v k, rs[j]? = some ⟨i + j, o, F j, v, k, natAt ms (i + j), PD j, HH j, HH (j + 1)⟩ ∧ drawOne x call ops (F j) o rk wd (i + j) (natAt ms (i + j)) (PD j) (HH j) = some (v, k, HH (j + 1)) ∧
        putV N (F j) o.dst v = some (F (j + 1)) ∧ PD (j + 1) = pdNext k (natAt ms (i + j)) (i + j) (PD j)
  | [], i, f, pd, S, rs, f', S', h => by
    have h : some (([] : List DR), f, takeIn rk pd S) = some (rs, f', S') := h
    cases h
    exact ⟨fun _ => f, fun _ => pd, fun _ => S, rfl, rfl, rfl, rfl, rfl, rfl, fun j o hj => by simp at hj⟩
  | o :: l, i, f, pd, S, rs, f', S', h => by
    change (match drawOne x call ops f o rk wd i (natAt ms i) pd S with
      | some (v, k, S1) => match putV N f o.dst v with
        | some f1 => match drawGo x call N ops rk wd ms l (Nat.succ i) f1 (pdNext k (natAt ms i) i pd) S1 with
          | some (rs, r) => some (⟨i, o, f, v, k, natAt ms i, pd, S, S1⟩ :: rs, r)
          | none => none
        | none => none
      | none => none) = some (rs, f', S') at h
    split at h
    · rename_i v k S1 h1
      split at h
      · rename_i f1 h2
        split at h
        · rename_i rs1 r h3
          cases h
          obtain ⟨F, PD, HH, a1, a2, a3, a4, a5, a6, a7⟩ := drawGo_cert l (Nat.succ i) f1 _ S1 rs1 f' S' h3
          refine ⟨fun | 0 => f | j + 1 => F j, fun | 0 => pd | j + 1 => PD j, fun | 0 => S | j + 1 => HH j, rfl, rfl, rfl, by simp [a4], a5, a6, ?_⟩
          intro j oj hj
          cases j with
          | zero =>
            simp at hj
            subst hj
            refine ⟨v, k, ?_, ?_, ?_, ?_⟩
            · simp [a3]
            · simp only [Nat.add_zero]; rw [h1, ← a3]
            · simp only; rw [h2, ← a1]
            · simp only [Nat.add_zero]; rw [← a2]
          | succ j =>
            simp at hj
            obtain ⟨v, k, b1, b2, b3, b4⟩ := a7 j oj hj
            have hidx : Nat.succ i + j = i + (j + 1) := by omega
            rw [hidx] at b1 b2 b4
            exact ⟨v, k, by simpa using b1, b2, b3, b4⟩
        · cases h
      · cases h
    · cases h

/-! numbers for blocks made out of turn -/
theorem rankR_cons {o : Oper} {l : List Oper} {j : Nat} : rankR (o :: l) (j + 1) = (if rawishOp o.op = true then rankR l j + 1 else rankR l j) := by
  show (match rawishOp o.op with
    | true => Nat.succ (rankR l j)
    | false => rankR l j) = _
  cases rawishOp o.op <;> rfl
theorem rankR_zero {l : List Oper} : rankR l 0 = 0 := by cases l <;> rfl
theorem rankR_mono : ∀ {l : List Oper} {i j : Nat}, i ≤ j → rankR l i ≤ rankR l j
  | [], _, _, _ => Nat.le_refl _
  | o :: l, 0, j, _ => by rw [rankR_zero]; omega
  | o :: l, i + 1, j + 1, h => by
    rw [rankR_cons, rankR_cons]
    have := rankR_mono (l := l) (i := i) (j := j) (by omega)
    split <;> omega
  | o :: l, i + 1, 0, h => by omega
theorem rankR_lt : ∀ {l : List Oper} {i j : Nat} {o : Oper}, l[i]? = some o → rawishOp o.op = true → i < j → rankR l i < rankR l j
  | [], i, _, _, h, _, _ => by simp at h
  | p :: l, 0, j + 1, o, h, hr, _ => by
    simp at h
    subst h
    rw [rankR_zero, rankR_cons, if_pos hr]; omega
  | p :: l, i + 1, j + 1, o, h, hr, hlt => by
    simp at h
    have := rankR_lt (l := l) (i := i) (j := j) h hr (by omega)
    rw [rankR_cons, rankR_cons]
    split <;> omega
  | _, i, 0, _, _, _, h => by omega

/-! masks -/
theorem natAt_eq (l : List Nat) (i : Nat) : natAt l i = (l[i]?).getD 0 := by
  unfold natAt
  rw [nth_eq]
  cases l[i]? <;> rfl
theorem maskE_bit {ms : List Nat} : ∀ {l : List Edge} {t : Nat}, Nat.testBit (maskE ms l) t = true → ∃ ed, ed ∈ l ∧ Region.binds .any ed = true ∧ (ed.on = t ∨ Nat.testBit (natAt ms ed.on) t = true)
  | [], t, h => by
    have : Nat.testBit 0 t = true := h
    simp at this
  | ed :: l, t, h => by
    change Nat.testBit (match Region.binds .any ed with
      | true => Nat.lor (Nat.lor (Nat.pow 2 ed.on) (natAt ms ed.on)) (maskE ms l)
      | false => maskE ms l) t = true at h
    split at h
    · rename_i hb
      have h' : Nat.testBit ((2 ^ ed.on ||| natAt ms ed.on) ||| maskE ms l) t = true := h
      rw [Nat.testBit_or, Nat.testBit_or, Bool.or_eq_true, Bool.or_eq_true] at h'
      rcases h' with (h1 | h1) | h1
      · rw [Nat.testBit_two_pow] at h1
        exact ⟨ed, by simp, hb, .inl (by simpa using h1)⟩
      · exact ⟨ed, by simp, hb, .inr h1⟩
      · obtain ⟨e2, a, b, c⟩ := maskE_bit h1
        exact ⟨e2, by simp [a], b, c⟩
    · obtain ⟨e2, a, b, c⟩ := maskE_bit h
      exact ⟨e2, by simp [a], b, c⟩
theorem backE_all {m : Region.Mode} {i : Nat} : ∀ {l : List Edge}, backE m i l = true → ∀ ed, ed ∈ l → Region.binds m ed = true → ed.on < i
  | [], _, _, h, _ => by simp at h
  | e :: l, h, ed, hm, hb => by
    change (match Region.binds m e with
      | true => match Nat.blt e.on i with
        | true => backE m i l
        | false => false
      | false => backE m i l) = true at h
    rcases List.mem_cons.1 hm with rfl | hm
    · rw [hb] at h
      simp only at h
      split at h
      · rename_i hb; exact blt_iff.1 hb
      · cases h
    · refine backE_all (l := l) ?_ ed hm hb
      split at h
      · split at h
        · exact h
        · cases h
      · exact h
theorem masksOk_all {ms : List Nat} : ∀ {l : List Oper} {i : Nat}, masksOk ms l i = true → ∀ (j : Nat) (o : Oper), l[j]? = some o → natAt ms (i + j) = maskE ms o.after.toList ∧ backE .text (i + j) o.after.toList = true
  | [], _, _, j, o, hj => by simp at hj
  | o :: l, i, h, j, oj, hj => by
    change (match Nat.beq (natAt ms i) (maskE ms o.after.toList) with
      | true => match backE .text i o.after.toList with
        | true => masksOk ms l (Nat.succ i)
        | false => false
      | false => false) = true at h
    split at h
    · rename_i h1
      split at h
      · rename_i h2
        cases j with
        | zero => simp at hj; subst hj; exact ⟨beq_iff.1 h1, h2⟩
        | succ j =>
          simp at hj
          have := masksOk_all h j oj hj
          rw [show Nat.succ i + j = i + (j + 1) by omega] at this
          exact this
      · cases h
    · cases h
theorem backAll_all {m : Region.Mode} : ∀ {l : List Oper} {i : Nat}, backAll m l i = true → ∀ (j : Nat) (o : Oper), l[j]? = some o → backE m (i + j) o.after.toList = true
  | [], _, _, j, o, hj => by simp at hj
  | o :: l, i, h, j, oj, hj => by
    change (match backE m i o.after.toList with
      | true => backAll m l (Nat.succ i)
      | false => false) = true at h
    split at h
    · rename_i h2
      cases j with
      | zero => simp at hj; subst hj; exact h2
      | succ j =>
        simp at hj
        have := backAll_all h j oj hj
        rw [show Nat.succ i + j = i + (j + 1) by omega] at this
        exact this
    · cases h
theorem lowE_all {rk : List Nat} {n r : Nat} : ∀ {l : List Edge}, lowE rk n r l = true → ∀ ed, ed ∈ l → Region.binds .gc ed = true → natAt rk ed.on < r ∧ ed.on < n
  | [], _, _, h, _ => by simp at h
  | e :: l, h, ed, hm, hb => by
    change (match Region.binds .gc e with
      | true => match Nat.blt (natAt rk e.on) r with
        | true => match Nat.blt e.on n with
          | true => lowE rk n r l
          | false => false
        | false => false
      | false => lowE rk n r l) = true at h
    rcases List.mem_cons.1 hm with rfl | hm
    · rw [hb] at h
      simp only at h
      split at h
      · rename_i h1
        split at h
        · rename_i h2; exact ⟨blt_iff.1 h1, blt_iff.1 h2⟩
        · cases h
      · cases h
    · refine lowE_all (l := l) ?_ ed hm hb
      split at h
      · split at h
        · split at h
          · exact h
          · cases h
        · cases h
      · exact h
theorem lowAll_all {rk : List Nat} {n : Nat} : ∀ {l : List Oper} {i : Nat}, lowAll rk n l i = true → ∀ (j : Nat) (o : Oper), l[j]? = some o → lowE rk n (natAt rk (i + j)) o.after.toList = true
  | [], _, _, j, o, hj => by simp at hj
  | o :: l, i, h, j, oj, hj => by
    change (match lowE rk n (natAt rk i) o.after.toList with
      | true => lowAll rk n l (Nat.succ i)
      | false => false) = true at h
    split at h
    · rename_i h2
      cases j with
      | zero => simp at hj; subst hj; exact h2
      | succ j =>
        simp at hj
        have := lowAll_all h j oj hj
        rw [show Nat.succ i + j = i + (j + 1) by omega] at this
        exact this
    · cases h
/-- a rank by which the edges of the gc's order go down -/
theorem progOk_rank {ops : List Oper} (h : progOk ops = true) : ∃ R : Nat → Nat, ∀ (i : Nat) (o : Oper), ops[i]? = some o → ∀ ed, ed ∈ o.after.toList → Region.binds .gc ed = true → R ed.on < R i ∧ ed.on < ops.length := by
  unfold progOk at h
  split at h
  · rename_i hb
    refine ⟨fun i => i, fun i o ho ed hed hg => ?_⟩
    have := backAll_all hb i o ho
    rw [Nat.zero_add] at this
    have h1 := backE_all this ed hed hg
    have h2 := (List.getElem?_eq_some_iff.1 ho).1
    exact ⟨h1, by omega⟩
  · refine ⟨natAt (ranksFrom ops.length ops 0), fun i o ho ed hed hg => ?_⟩
    have := lowAll_all h i o ho
    rw [Nat.zero_add] at this
    exact lowE_all this ed hed hg
theorem wroteBy_all {ms : List Nat} {k m t : Nat} : ∀ {l : List Oper} {i : Nat}, wroteBy ms k m t l i = true → ∀ (j : Nat) (o : Oper), l[j]? = some o → o.dst = some t →
    Nat.testBit m (i + j) = true ∨ k = i + j ∨ Nat.testBit (natAt ms (i + j)) k = true
  | [], _, _, j, o, hj, _ => by simp at hj
  | o :: l, i, h, j, oj, hj, hd => by
    change (match o.dst with
      | none => wroteBy ms k m t l (Nat.succ i)
      | some d => match Nat.beq d t with
        | true => match Nat.testBit m i with
          | true => wroteBy ms k m t l (Nat.succ i)
          | false => match Nat.beq k i with
            | true => wroteBy ms k m t l (Nat.succ i)
            | false => match Nat.testBit (natAt ms i) k with
              | true => wroteBy ms k m t l (Nat.succ i)
              | false => false
        | false => wroteBy ms k m t l (Nat.succ i)) = true at h
    have rest : wroteBy ms k m t l (Nat.succ i) = true := by
      split at h
      · exact h
      · split at h
        · split at h
          · exact h
          · split at h
            · exact h
            · split at h
              · exact h
              · cases h
        · exact h
    cases j with
    | succ j =>
      simp at hj
      have := wroteBy_all rest j oj hj hd
      rw [show Nat.succ i + j = i + (j + 1) by omega] at this
      exact this
    | zero =>
      simp at hj
      subst hj
      rw [hd] at h
      simp only at h
      rw [beq_iff.2 rfl] at h
      simp only at h
      split at h
      · rename_i hb; exact .inl hb
      · split at h
        · rename_i hb; exact .inr (.inl (beq_iff.1 hb))
        · split at h
          · rename_i hb; exact .inr (.inr hb)
          · cases h
theorem wroteAll_all {ms : List Nat} {k : Nat} {ops : List Oper} : ∀ {ts : List Nat}, wroteAll ms k ops ts = true → ∀ t, t ∈ ts → ∀ (j : Nat) (o : Oper), ops[j]? = some o → o.dst = some t →
    Nat.testBit (natAt ms k) j = true ∨ k = j ∨ Nat.testBit (natAt ms j) k = true
  | [], _, t, ht, _, _, _, _ => by simp at ht
  | u :: ts, h, t, ht, j, o, hj, hd => by
    change (match wroteBy ms k (natAt ms k) u ops 0 with
      | true => wroteAll ms k ops ts
      | false => false) = true at h
    split at h
    · rename_i h1
      rcases List.mem_cons.1 ht with rfl | ht
      · have := wroteBy_all h1 j o hj hd
        rwa [Nat.zero_add] at this
      · exact wroteAll_all h t ht j o hj hd
    · cases h
theorem unwritten_all {d : Nat} : ∀ {l : List Oper}, unwritten d l = true → ∀ (j : Nat) (o : Oper), l[j]? = some o → o.dst ≠ some d
  | [], _, j, o, hj => by simp at hj
  | p :: l, h, j, o, hj => by
    change (match p.dst with
      | none => unwritten d l
      | some t => match Nat.beq t d with
        | true => false
        | false => unwritten d l) = true at h
    cases j with
    | zero =>
      simp at hj
      subst hj
      intro hd
      rw [hd] at h
      simp only at h
      rw [beq_iff.2 rfl] at h
      cases h
    | succ j =>
      simp at hj
      refine unwritten_all (l := l) ?_ j o hj
      split at h
      · exact h
      · split at h
        · cases h
        · exact h
theorem seenOk_all {ms : List Nat} {ops : List Oper} : ∀ {l : List Oper} {i : Nat}, seenOk ms ops l i = true →
    (∀ (j : Nat) (o : Oper), l[j]? = some o → wroteAll ms (i + j) ops (seen o.op) = true ∧ wroteAll ms (i + j) ops (guardT ops o) = true) ∧
    (∀ (j k : Nat) (o p : Oper) (d : Nat), l[j]? = some o → l[k]? = some p → j < k → o.dst = some d → p.dst ≠ some d)
  | [], _, _ => ⟨fun j o hj => by simp at hj, fun j k o p d hj => by simp at hj⟩
  | o :: l, i, h => by
    change (match wroteAll ms i ops (seen o.op) with
      | true => match wroteAll ms i ops (guardT ops o) with
        | true => match o.dst with
          | none => seenOk ms ops l (Nat.succ i)
          | some d => match unwritten d l with
            | true => seenOk ms ops l (Nat.succ i)
            | false => false
        | false => false
      | false => false) = true at h
    split at h
    · rename_i h1
      split at h
      · rename_i h2
        have rest : seenOk ms ops l (Nat.succ i) = true := by
          split at h
          · exact h
          · split at h
            · exact h
            · cases h
        obtain ⟨r1, r2⟩ := seenOk_all rest
        refine ⟨fun j oj hj => ?_, fun j k oj p d hj hk hjk hd => ?_⟩
        · cases j with
          | zero => simp at hj; subst hj; exact ⟨h1, h2⟩
          | succ j =>
            simp at hj
            have := r1 j oj hj
            rw [show Nat.succ i + j = i + (j + 1) by omega] at this
            exact this
        · cases k with
          | zero => omega
          | succ k =>
            simp at hk
            cases j with
            | zero =>
              simp at hj
              subst hj
              rw [hd] at h
              simp only at h
              split at h
              · rename_i h3; exact unwritten_all h3 k p hk
              · cases h
            | succ j =>
              simp at hj
              exact r2 j k oj p d hj hk (by omega) hd
      · cases h
    · cases h

/-! the checks after the run -/
theorem chainsOf_mem : ∀ {l : List DR} {r : DR}, r ∈ chainsOf l ↔ r ∈ l ∧ r.k = .chain
  | [], r => by simp [chainsOf]
  | c :: l, r => by
    have ih := chainsOf_mem (l := l) (r := r)
    have he : chainsOf (c :: l) = (match c.k with
      | .chain => c :: chainsOf l
      | _ => chainsOf l) := rfl
    rw [he]
    split
    · rename_i hk
      constructor
      · intro h
        rcases List.mem_cons.1 h with rfl | h
        · exact ⟨by simp, hk⟩
        · exact ⟨by simp [(ih.1 h).1], (ih.1 h).2⟩
      · rintro ⟨h, h2⟩
        rcases List.mem_cons.1 h with rfl | h
        · simp
        · simp [ih.2 ⟨h, h2⟩]
    · rename_i hk
      constructor
      · intro h; exact ⟨by simp [(ih.1 h).1], (ih.1 h).2⟩
      · rintro ⟨h, h2⟩
        rcases List.mem_cons.1 h with rfl | h
        · exact absurd h2 (fun hh => hk hh)
        · exact ih.2 ⟨h, h2⟩
theorem onC_all {i : Nat} : ∀ {l : List DR}, onC i l = true → ∀ c, c ∈ l → Nat.testBit c.m i = true
  | [], _, _, h => by simp at h
  | d :: l, h, c, hc => by
    change (match Nat.testBit d.m i with
      | true => onC i l
      | false => false) = true at h
    split at h
    · rename_i h1
      rcases List.mem_cons.1 hc with rfl | hc
      · exact h1
      · exact onC_all h c hc
    · cases h
/-- a row in the order of the text: i goes up -/
def UpR (l : List DR) : Prop := l.Pairwise (fun a b => a.i < b.i)
theorem orderedC_all : ∀ {l : List DR}, UpR l → orderedC l = true → ∀ c d, c ∈ l → d ∈ l → c.i < d.i → Nat.testBit d.m c.i = true
  | [], _, _, c, _, h, _, _ => by simp at h
  | a :: l, hu, h, c, d, hc, hd, hlt => by
    change (match onC a.i l with
      | true => orderedC l
      | false => false) = true at h
    obtain ⟨u1, u2⟩ := List.pairwise_cons.1 hu
    split at h
    · rename_i h1
      rcases List.mem_cons.1 hc with hca | hc2
      · rcases List.mem_cons.1 hd with hda | hd2
        · rw [hca, hda] at hlt; omega
        · rw [hca]; exact onC_all h1 d hd2
      · rcases List.mem_cons.1 hd with hda | hd2
        · have := u1 c hc2; rw [hda] at hlt; omega
        · exact orderedC_all u2 h c d hc2 hd2 hlt
    · cases h
theorem feas_of {p : Nat} {r : DR} : ∀ {cs : List DR}, (∀ c, c ∈ cs → c.i < p → Nat.testBit c.m r.i = false) → (∀ c, c ∈ cs → p ≤ c.i → Nat.testBit r.m c.i = false) → feas p r cs = true
  | [], _, _ => rfl
  | c :: cs, h1, h2 => by
    change (match Nat.blt c.i p with
      | true => match Nat.testBit c.m r.i with
        | true => false
        | false => feas p r cs
      | false => match Nat.testBit r.m c.i with
        | true => false
        | false => feas p r cs) = true
    have ih := feas_of (cs := cs) (fun d hd => h1 d (by simp [hd])) (fun d hd => h2 d (by simp [hd]))
    split
    · rename_i hb
      rw [h1 c (by simp) (blt_iff.1 hb)]; exact ih
    · rename_i hb
      have : p ≤ c.i := by
        rcases Nat.lt_or_ge c.i p with hlt | hge
        · rw [blt_iff.2 hlt] at hb; cases hb
        · exact hge
      rw [h2 c (by simp) this]; exact ih
theorem ownP_of {p : Nat} {r : DR} {cs : List DR} (h : ownP p r cs = true) : p ≤ r.i ∧ ∀ c, c ∈ cs → p ≤ c.i → ¬ c.i < r.i := by
  unfold ownP at h
  split at h
  · rename_i hb
    refine ⟨ble_iff.1 hb, ?_⟩
    clear hb
    induction cs with
    | nil => intro c hc; simp at hc
    | cons d cs ih =>
      change (match Nat.ble p d.i with
        | true => match Nat.blt d.i r.i with
          | true => false
          | false => List.rec (motive := fun _ => Bool) true (fun c _ ih => match Nat.ble p c.i with
            | true => match Nat.blt c.i r.i with
              | true => false
              | false => ih
            | false => ih) cs
        | false => List.rec (motive := fun _ => Bool) true (fun c _ ih => match Nat.ble p c.i with
          | true => match Nat.blt c.i r.i with
            | true => false
            | false => ih
          | false => ih) cs) = true at h
      intro c hc hpc hlt
      split at h
      · split at h
        · cases h
        · rename_i hn
          rcases List.mem_cons.1 hc with rfl | hc
          · rw [blt_iff.2 hlt] at hn; cases hn
          · exact ih h c hc hpc hlt
      · rename_i hn
        rcases List.mem_cons.1 hc with rfl | hc
        · rw [ble_iff.2 hpc] at hn; cases hn
        · exact ih h c hc hpc hlt
  · cases h
theorem readsAt_all {cs : List DR} {p : Nat} {S : AS} : ∀ {rs : List DR}, readsAt x cs p S rs = true → ∀ r, r ∈ rs → readAt x cs p S r = true
  | [], _, _, h => by simp at h
  | d :: rs, h, r, hr => by
    change (match readAt x cs p S d with
      | true => readsAt x cs p S rs
      | false => false) = true at h
    split at h
    · rename_i h1
      rcases List.mem_cons.1 hr with rfl | hr
      · exact h1
      · exact readsAt_all h r hr
    · cases h
theorem readsAll_all {cs rs : List DR} : ∀ {l : List DR}, readsAll x cs rs l = true → ∀ c, c ∈ l → readsAt x cs (Nat.succ c.i) c.post rs = true
  | [], _, _, h => by simp at h
  | d :: l, h, c, hc => by
    change (match readsAt x cs (Nat.succ d.i) d.post rs with
      | true => readsAll x cs rs l
      | false => false) = true at h
    split at h
    · rename_i h1
      rcases List.mem_cons.1 hc with rfl | hc
      · exact h1
      · exact readsAll_all h c hc
    · cases h
end Go.X
