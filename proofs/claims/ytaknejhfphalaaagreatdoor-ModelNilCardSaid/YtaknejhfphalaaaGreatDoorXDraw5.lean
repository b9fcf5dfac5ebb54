import Derived.Test.YtaknejhfphalaaaGreatDoorXPair
/-
  Part twenty-five: the certificate of a region whose order is drawn.
-/
namespace Go.X
open Go
variable {x : Cx} {call : CallF} {N : Nat}

theorem chainsOf_sub : ∀ (l : List DR), (chainsOf l).Sublist l
  | [] => .slnil
  | c :: l => by
    have he : chainsOf (c :: l) = (match c.k with
      | .chain => c :: chainsOf l
      | _ => chainsOf l) := rfl
    rw [he]
    split
    · exact (chainsOf_sub l).cons_cons c
    · exact (chainsOf_sub l).cons c

structure Cert (x : Cx) (call : CallF) (N : Nat) (ops : Array Oper) (s : St) (rk : Nat → Nat) (wd : Nat) (M : Nat → Nat) (F : Nat → Fr) (PD : Nat → List (Nat × AObj)) (HH : Nat → AS) (V : Nat → Value) (K : Nat → Kd) (pr : Option (Nat × Nat)) (HA : AS) : Prop where
  hrk : ∀ i, s.S.next ≤ rk i
  hwd : ∀ i ob, i < ops.size → K i = .raw ob → rk i < s.S.next + wd
  rinj : ∀ i j oi oj, i < ops.size → j < ops.size → K i = .raw oi → K j = .raw oj → rk i = rk j → i = j
  f0 : F 0 = s.f
  pd0 : PD 0 = []
  hh0 : HH 0 = { s.S with next := s.S.next + wd }
  go : ∀ (i : Nat) (o : Oper), ops[i]? = some o → drawOne x call ops.toList (F i) o rk wd i (M i) (PD i) (HH i) = some (V i, K i, HH (i + 1))
  put : ∀ (i : Nat) (o : Oper), ops[i]? = some o → putV N (F i) o.dst (V i) = some (F (i + 1))
  pd : ∀ i, i < ops.size → PD (i + 1) = pdNext (K i) (M i) i (PD i)
  mask : ∀ (i : Nat) (o : Oper), ops[i]? = some o → ∀ t, Nat.testBit (M i) t = true → ∃ ed : Edge, ed ∈ o.after.toList ∧ Region.binds .any ed = true ∧ (ed.on = t ∨ Nat.testBit (M ed.on) t = true)
  back : ∀ (i : Nat) (o : Oper), ops[i]? = some o → ∀ ed : Edge, ed ∈ o.after.toList → Region.binds .text ed = true → ed.on < i
  rank : ∃ R : Nat → Nat, ∀ (i : Nat) (o : Oper), ops[i]? = some o → ∀ ed : Edge, ed ∈ o.after.toList → Region.binds .gc ed = true → R ed.on < R i ∧ ed.on < ops.size
  looks : ∀ (i : Nat) (o : Oper) (t : Nat), ops[i]? = some o → (t ∈ seen o.op ∨ t ∈ guardT ops.toList o) → ∀ (j : Nat) (p : Oper), ops[j]? = some p → p.dst = some t → Nat.testBit (M i) j = true ∨ i = j ∨ Nat.testBit (M j) i = true
  uniq : ∀ (i j : Nat) (o p : Oper) (d : Nat), ops[i]? = some o → ops[j]? = some p → o.dst = some d → p.dst = some d → i = j
  ord : ∀ c d, c < d → d < ops.size → K c = .chain → K d = .chain → Nat.testBit (M d) c = true ∨ pr = some (c, d)
  pair : ∀ u t, pr = some (u, t) → u < t ∧ t < ops.size ∧ K u = .chain ∧ K t = .chain ∧ (∀ c, u < c → c < t → K c ≠ .chain) ∧ hangs true (M u) (PD u) = [] ∧ hangs true (M t) (PD t) = [] ∧
    (∀ r, r < ops.size → K r = .read → Nat.testBit (M r) u = true ∨ Nat.testBit (M t) r = true) ∧
    ∃ (ou ot : Oper) (gu gt : AS → Option (Value × AS)) (HZ : AS), ops[u]? = some ou ∧ ops[t]? = some ot ∧ wantedV x ops.toList (F u) ou = some true ∧ wantedV x ops.toList (F t) ot = some true ∧
      sem x (F u) ou.op = .write gu ∧ sem x (F t) ot.op = .write gt ∧ gt (HH u) = some (V t, HA) ∧ gu HA = some (V u, HZ) ∧ HZ.next = (HH (t + 1)).next ∧ ∀ k, HZ.heap.get k = (HH (t + 1)).heap.get k
  reads : ∀ (i : Nat) (o : Oper), ops[i]? = some o → K i = .read → ∀ p, p ≤ ops.size → (p = 0 ∨ ∃ c, p = c + 1 ∧ c < ops.size ∧ K c = .chain) →
    (∀ c, c < ops.size → K c = .chain → c < p → Nat.testBit (M c) i = false) → (∀ c, c < ops.size → K c = .chain → p ≤ c → Nat.testBit (M i) c = false) →
    ∃ g, wantedV x ops.toList (F i) o = some true ∧ sem x (F i) o.op = .read g ∧ g (HH p) = some (V i)

theorem binds_any {md : Region.Mode} {ed : Edge} (h : Region.binds .any ed = true) : Region.binds md ed = true := by
  unfold Region.binds at *
  split at h <;> first | rfl | (simp at h)
theorem drawOne_inv {ops : List Oper} {f : Fr} {o : Oper} {rk : Nat → Nat} {wd i m : Nat} {pd : List (Nat × AObj)} {S S1 : AS} {v : Value} {k : Kd} (h : drawOne x call ops f o rk wd i m pd S = some (v, k, S1)) :
    (wantedV x ops f o = some false ∧ v = undef ∧ k = .still ∧ S1 = S) ∨
    (wantedV x ops f o = some true ∧
      ((∃ ob, rawOp x f o.op (rk i) = some (v, ob) ∧ k = .raw ob ∧ S1 = S ∧ rawishOp o.op = true ∧ wd ≠ 0) ∨
       (sem x f o.op = .pure (some v) ∧ k = .still ∧ S1 = S) ∨
       (∃ g, sem x f o.op = .read g ∧ g S = some v ∧ k = .read ∧ S1 = S) ∨
       (k = .chain ∧ ((∃ g, sem x f o.op = .write g ∧ g (takeIn rk (hangs true m pd) S) = some (v, S1)) ∨
         (∃ g args, sem x f o.op = .call g args ∧ callV x call g args (takeIn rk (hangs true m pd) S) = some (v, S1)))))) := by
  unfold drawOne at h
  split at h
  · rename_i b hb
    split at h
    · refine .inr ⟨hb, ?_⟩
      have ch : ∀ {r : Option (Value × AS)}, chained r = some (v, k, S1) → k = .chain ∧ r = some (v, S1) := fun {r} h => by
        unfold chained at h
        split at h
        · cases h; exact ⟨rfl, rfl⟩
        · cases h
      have dsem : drawSem x call rk m pd S (sem x f o.op) = some (v, k, S1) → (sem x f o.op = .pure (some v) ∧ k = .still ∧ S1 = S) ∨
          (∃ g, sem x f o.op = .read g ∧ g S = some v ∧ k = .read ∧ S1 = S) ∨
          (k = .chain ∧ ((∃ g, sem x f o.op = .write g ∧ g (takeIn rk (hangs true m pd) S) = some (v, S1)) ∨
            (∃ g args, sem x f o.op = .call g args ∧ callV x call g args (takeIn rk (hangs true m pd) S) = some (v, S1)))) := fun h => by
        unfold drawSem at h
        split at h
        · rename_i u hs
          split at h
          · cases h; exact .inl ⟨hs, rfl, rfl⟩
          · cases h
        · rename_i g hs
          split at h
          · rename_i u hg
            cases h; exact .inr (.inl ⟨g, hs, hg, rfl, rfl⟩)
          · cases h
        · rename_i g hs
          obtain ⟨h1, h2⟩ := ch h
          exact .inr (.inr ⟨h1, .inl ⟨g, hs, h2⟩⟩)
        · rename_i g args hs
          obtain ⟨h1, h2⟩ := ch h
          exact .inr (.inr ⟨h1, .inr ⟨g, args, hs, h2⟩⟩)
        · cases h
      unfold drawOp at h
      split at h
      · exact .inr (dsem h)
      · rename_i hwd
        split at h
        · rename_i v2 ob hr
          split at h
          · rename_i hraw
            cases h
            exact .inl ⟨ob, hr, rfl, rfl, hraw, fun hh => by rw [beq_iff.2 hh] at hwd; cases hwd⟩
          · cases h
        · exact .inr (dsem h)
    · cases h; exact .inl ⟨hb, rfl, rfl, rfl⟩
  · cases h

section
variable {ops : Array Oper} {s : St} {rk : Nat → Nat} {wd : Nat} {M : Nat → Nat} {F : Nat → Fr} {PD : Nat → List (Nat × AObj)} {HH : Nat → AS} {V : Nat → Value} {K : Nat → Kd} {pr : Option (Nat × Nat)} {HA : AS}

theorem opAt {i : Nat} (hi : i < ops.size) : ∃ o, ops[i]? = some o := ⟨ops[i], by simp [hi]⟩
theorem opLt {i : Nat} {o : Oper} (h : ops[i]? = some o) : i < ops.size := (Array.getElem?_eq_some_iff.1 h).1
theorem still_of {go : ∀ (i : Nat) (o : Oper), ops[i]? = some o → drawOne x call ops.toList (F i) o rk wd i (M i) (PD i) (HH i) = some (V i, K i, HH (i + 1))} {i : Nat} (hi : i < ops.size) (hk : K i ≠ .chain) : HH (i + 1) = HH i := by
  obtain ⟨o, ho⟩ := opAt hi
  rcases drawOne_inv (go i o ho) with ⟨_, _, _, h⟩ | ⟨_, ⟨_, _, _, h, _, _⟩ | ⟨_, _, h⟩ | ⟨_, _, _, _, h⟩ | ⟨h, _⟩⟩
  · exact h
  · exact h
  · exact h
  · exact h
  · exact absurd h hk
theorem const_of {go : ∀ (i : Nat) (o : Oper), ops[i]? = some o → drawOne x call ops.toList (F i) o rk wd i (M i) (PD i) (HH i) = some (V i, K i, HH (i + 1))} {p : Nat} : ∀ i, p ≤ i → i ≤ ops.size → (∀ c, p ≤ c → c < i → K c ≠ .chain) → HH i = HH p
  | 0, h, _, _ => by have : p = 0 := by omega
                     subst this; rfl
  | i + 1, h, hi, hc => by
    by_cases hp : p = i + 1
    · subst hp; rfl
    · rw [still_of (go := go) (by omega) (hc i (by omega) (by omega))]
      exact const_of (go := go) i (by omega) (by omega) fun c h1 h2 => hc c h1 (by omega)
theorem Cert.const (h : Cert x call N ops s rk wd M F PD HH V K pr HA) {p i : Nat} (hp : p ≤ i) (hi : i ≤ ops.size) (hc : ∀ c, p ≤ c → c < i → K c ≠ .chain) : HH i = HH p := const_of (go := h.go) i hp hi hc
theorem Cert.bit_lt (h : Cert x call N ops s rk wd M F PD HH V K pr HA) : ∀ (i : Nat), i < ops.size → ∀ t, Nat.testBit (M i) t = true → t < i := by
  intro i
  induction i using Nat.strongRecOn with
  | ind i ih =>
    intro hi t ht
    obtain ⟨o, ho⟩ := opAt hi
    obtain ⟨ed, h1, h2, h3⟩ := h.mask i o ho t ht
    have hlt := h.back i o ho ed h1 (binds_any h2)
    rcases h3 with rfl | h3
    · exact hlt
    · have := ih ed.on hlt (by omega) t h3; omega
theorem Cert.fset (h : Cert x call N ops s rk wd M F PD HH V K pr HA) : ∀ i, i ≤ ops.size → ∀ (j : Nat) (o : Oper) (t : Nat), j < i → ops[j]? = some o → o.dst = some t → (F i).get t = some (V j)
  | 0, _, j, _, _, hj, _, _ => by omega
  | i + 1, hi, j, o, t, hj, ho, hd => by
    obtain ⟨oi, hoi⟩ := opAt (ops := ops) (i := i) (by omega)
    have hp := h.put i oi hoi
    by_cases hji : j = i
    · subst hji
      rw [ho] at hoi; cases hoi
      rw [hd] at hp
      unfold putV at hp
      simp only at hp
      split at hp
      · rw [← Option.some.inj hp, PT.get_set_same]
      · cases hp
    · have ih := Cert.fset h i (by omega) j o t (by omega) ho hd
      unfold putV at hp
      split at hp
      · rw [← Option.some.inj hp]; exact ih
      · rename_i d hdi
        split at hp
        · rw [← Option.some.inj hp]
          rw [PT.get_set_other _ _ _ _ (fun hh => hji (h.uniq j i o oi t ho hoi hd (by rw [hdi, hh])))]
          exact ih
        · cases hp
theorem Cert.fold (h : Cert x call N ops s rk wd M F PD HH V K pr HA) : ∀ i, i ≤ ops.size → ∀ t, (∀ (j : Nat) (o : Oper), j < i → ops[j]? = some o → o.dst ≠ some t) → (F i).get t = s.f.get t
  | 0, _, t, _ => by rw [h.f0]
  | i + 1, hi, t, hn => by
    obtain ⟨oi, hoi⟩ := opAt (ops := ops) (i := i) (by omega)
    have hp := h.put i oi hoi
    have ih := Cert.fold h i (by omega) t fun j o hj ho => hn j o (by omega) ho
    have hne := hn i oi (by omega) hoi
    unfold putV at hp
    split at hp
    · rw [← Option.some.inj hp]; exact ih
    · rename_i d hdi
      split at hp
      · rw [← Option.some.inj hp]
        rw [PT.get_set_other _ _ _ _ (fun hh => hne (by rw [hdi, hh]))]
        exact ih
      · cases hp
theorem hangs_mem {b : Bool} {m : Nat} : ∀ {l : List (Nat × AObj)} {p : Nat × AObj}, p ∈ hangs b m l ↔ p ∈ l ∧ Nat.testBit m p.1 = b
  | [], p => by simp [hangs]
  | q :: l, p => by
    have ih := hangs_mem (b := b) (m := m) (l := l) (p := p)
    have he : hangs b m (q :: l) = (match Nat.testBit m q.1 == b with
      | true => q :: hangs b m l
      | false => hangs b m l) := rfl
    rw [he]
    split
    · rename_i hq
      have hq := eq_of_beq hq
      constructor
      · intro h
        rcases List.mem_cons.1 h with rfl | h
        · exact ⟨by simp, hq⟩
        · exact ⟨by simp [(ih.1 h).1], (ih.1 h).2⟩
      · rintro ⟨h, h2⟩
        rcases List.mem_cons.1 h with rfl | h
        · simp
        · simp [ih.2 ⟨h, h2⟩]
    · rename_i hq
      constructor
      · intro h; exact ⟨by simp [(ih.1 h).1], (ih.1 h).2⟩
      · rintro ⟨h, h2⟩
        rcases List.mem_cons.1 h with rfl | h
        · rw [h2] at hq; simp at hq
        · exact ih.2 ⟨h, h2⟩
theorem hangs_sub {b : Bool} {m : Nat} : ∀ (l : List (Nat × AObj)), (hangs b m l).Sublist l
  | [] => .slnil
  | q :: l => by
    have he : hangs b m (q :: l) = (match Nat.testBit m q.1 == b with
      | true => q :: hangs b m l
      | false => hangs b m l) := rfl
    rw [he]
    split
    · exact (hangs_sub l).cons_cons q
    · exact (hangs_sub l).cons q
/-- not yet taken in when just the chained operations before p are done -/
def Un (M : Nat → Nat) (K : Nat → Kd) (p j : Nat) : Prop := ∀ c, c < p → K c = .chain → Nat.testBit (M c) j = false
theorem Cert.pd_mem (h : Cert x call N ops s rk wd M F PD HH V K pr HA) : ∀ i, i ≤ ops.size → ∀ j ob, (j, ob) ∈ PD i ↔ j < i ∧ K j = .raw ob ∧ Un M K i j
  | 0, _, j, ob => by rw [h.pd0]; simp
  | i + 1, hi, j, ob => by
    have ih := Cert.pd_mem h i (by omega) j ob
    rw [h.pd i (by omega)]
    have un : Un M K (i + 1) j ↔ Un M K i j ∧ (K i = .chain → Nat.testBit (M i) j = false) :=
      ⟨fun hu => ⟨fun c hc => hu c (by omega), fun hk => hu i (by omega) hk⟩, fun hu c hc hk => by
        by_cases hci : c = i
        · subst hci; exact hu.2 hk
        · exact hu.1 c (by omega) hk⟩
    have low : ∀ t, i ≤ t → Un M K (i + 1) t := fun t ht c hc hk => by
      cases hb : Nat.testBit (M c) t with
      | false => rfl
      | true => have := h.bit_lt c (by omega) t hb; omega
    unfold pdNext
    split
    · rename_i o hk
      rw [List.mem_cons, ih]
      constructor
      · rintro (hh | ⟨h1, h2, h3⟩)
        · cases hh; exact ⟨by omega, hk, low _ (Nat.le_refl _)⟩
        · exact ⟨by omega, h2, un.2 ⟨h3, fun hc => by rw [hk] at hc; cases hc⟩⟩
      · rintro ⟨h1, h2, h3⟩
        by_cases hji : j = i
        · subst hji; rw [hk] at h2; cases h2; exact .inl rfl
        · exact .inr ⟨by omega, h2, (un.1 h3).1⟩
    · rename_i hk
      rw [hangs_mem, ih]
      constructor
      · rintro ⟨⟨h1, h2, h3⟩, h4⟩; exact ⟨by omega, h2, un.2 ⟨h3, fun _ => h4⟩⟩
      · rintro ⟨h1, h2, h3⟩
        have hji : j ≠ i := fun hh => by subst hh; rw [hk] at h2; cases h2
        exact ⟨⟨by omega, h2, (un.1 h3).1⟩, (un.1 h3).2 hk⟩
    · rename_i hk1 hk2
      rw [ih]
      constructor
      · rintro ⟨h1, h2, h3⟩; exact ⟨by omega, h2, un.2 ⟨h3, fun hc => absurd hc hk2⟩⟩
      · rintro ⟨h1, h2, h3⟩
        have hji : j ≠ i := fun hh => by subst hh; exact hk1 _ h2
        exact ⟨by omega, h2, (un.1 h3).1⟩
theorem Cert.pd_nodup (h : Cert x call N ops s rk wd M F PD HH V K pr HA) : ∀ i, i ≤ ops.size → ((PD i).map (·.1)).Nodup
  | 0, _ => by rw [h.pd0]; exact List.nodup_nil
  | i + 1, hi => by
    have ih := Cert.pd_nodup h i (by omega)
    rw [h.pd i (by omega)]
    unfold pdNext
    split
    · rw [List.map_cons, List.nodup_cons]
      refine ⟨fun hm => ?_, ih⟩
      obtain ⟨⟨j, ob⟩, h1, h2⟩ := List.mem_map.1 hm
      have := ((h.pd_mem i (by omega) j ob).1 h1).1
      simp only at h2
      omega
    · exact ih.sublist ((hangs_sub _).map _)
    · exact ih
end

theorem drawW_or (ms : List Nat) (ops : List Oper) : drawW ms ops = 0 ∨ drawW ms ops = rankR ops ops.length := by
  unfold drawW
  split
  · split
    · exact .inr rfl
    · split
      · exact .inl rfl
      · exact .inr rfl
  · exact .inl rfl
theorem cert_of {ops : Array Oper} {s s1 : St} {rnd : Bool} (h : drawOps x call rnd N ops.toList s = some s1) :
    ∃ (rk : Nat → Nat) (wd : Nat) (M : Nat → Nat) (F : Nat → Fr) (PD : Nat → List (Nat × AObj)) (HH : Nat → AS) (V : Nat → Value) (K : Nat → Kd) (pr : Option (Nat × Nat)) (HA : AS),
      Cert x call N ops s rk wd M F PD HH V K pr HA ∧ s1 = ⟨F ops.size, s.ds, takeIn rk (PD ops.size) (HH ops.size)⟩ := by
  unfold drawOps at h
  split at h
  · rename_i hok
    split at h
    · rename_i rs f S hgo
      split at h
      · rename_i hdr
        cases h
        obtain ⟨F, PD, HH, a1, a2, a3, a4, rfl, rfl, a7⟩ := drawGo_cert _ _ _ _ _ _ _ _ hgo
        generalize hms : masksFrom ops.toList [] = ms at *
        generalize hrkd : (fun i => Nat.add s.S.next (rankR ops.toList i)) = rk at *
        generalize hwdd : drawW ms ops.toList = wd at *
        have hrow : ∀ j o, ops[j]? = some o → ∃ v k, rs[j]? = some ⟨j, o, F j, v, k, natAt ms j, PD j, HH j, HH (j + 1)⟩ ∧
            drawOne x call ops.toList (F j) o rk wd j (natAt ms j) (PD j) (HH j) = some (v, k, HH (j + 1)) ∧
            putV N (F j) o.dst v = some (F (j + 1)) ∧ PD (j + 1) = pdNext k (natAt ms j) j (PD j) := fun j o hj => by
          have := a7 j o (by rw [Array.getElem?_toList]; exact hj)
          simpa only [Nat.zero_add] using this
        let V : Nat → Value := fun j => match rs[j]? with | some r => r.v | none => undef
        let K : Nat → Kd := fun j => match rs[j]? with | some r => r.k | none => .still
        have hrow2 : ∀ j o, ops[j]? = some o → rs[j]? = some ⟨j, o, F j, V j, K j, natAt ms j, PD j, HH j, HH (j + 1)⟩ ∧
            drawOne x call ops.toList (F j) o rk wd j (natAt ms j) (PD j) (HH j) = some (V j, K j, HH (j + 1)) ∧
            putV N (F j) o.dst (V j) = some (F (j + 1)) ∧ PD (j + 1) = pdNext (K j) (natAt ms j) j (PD j) := fun j o hj => by
          obtain ⟨v, k, h1, h2, h3, h4⟩ := hrow j o hj
          have hv : V j = v := by simp only [V, h1]
          have hk : K j = k := by simp only [K, h1]
          rw [hv, hk]; exact ⟨h1, h2, h3, h4⟩
        unfold drawOk at hok
        split at hok
        · rename_i hmk
          split at hok
          case h_2 => cases hok
          rename_i hpr
          obtain ⟨R, hR⟩ := progOk_rank hpr
          obtain ⟨so1, so2⟩ := seenOk_all hok
          have hmk := masksOk_all hmk
          have lk : ∀ {i : Nat} {o : Oper}, ops[i]? = some o → ops.toList[i]? = some o := fun h => by rw [Array.getElem?_toList]; exact h
          have hgo2 := fun i o ho => (hrow2 i o ho).2.1
          have hup : UpR rs := by
            rw [UpR, List.pairwise_iff_getElem]
            intro i j hi hj hij
            have e1 : rs[i]? = some rs[i] := by simp [hi]
            have e2 : rs[j]? = some rs[j] := by simp [hj]
            obtain ⟨oi, hoi⟩ := opAt (ops := ops) (i := i) (by rw [a4] at hi; simpa using hi)
            obtain ⟨oj, hoj⟩ := opAt (ops := ops) (i := j) (by rw [a4] at hj; simpa using hj)
            have b1 := (hrow2 i oi hoi).1
            have b2 := (hrow2 j oj hoj).1
            rw [e1] at b1; rw [e2] at b2
            rw [Option.some.inj b1, Option.some.inj b2]
            exact hij
          have hup2 : UpR (chainsOf rs) := hup.sublist (chainsOf_sub rs)
          have inC : ∀ c, c < ops.size → K c = .chain → ∃ r, r ∈ chainsOf rs ∧ r.i = c ∧ r.m = natAt ms c ∧ r.post = HH (c + 1) := fun c hc hk => by
            obtain ⟨o, ho⟩ := opAt hc
            have := (hrow2 c o ho).1
            exact ⟨_, chainsOf_mem.2 ⟨List.mem_of_getElem? this, hk⟩, rfl, rfl, rfl⟩
          have ofR : ∀ r, r ∈ rs → ∃ o, ops[r.i]? = some o ∧ r = ⟨r.i, o, F r.i, V r.i, K r.i, natAt ms r.i, PD r.i, HH r.i, HH (r.i + 1)⟩ := fun r h1 => by
            obtain ⟨j, hj, hj2⟩ := List.getElem_of_mem h1
            have e1 : rs[j]? = some r := by rw [List.getElem?_eq_getElem hj, hj2]
            obtain ⟨o, ho⟩ := opAt (ops := ops) (i := j) (by rw [a4] at hj; simpa using hj)
            have b1 := (hrow2 j o ho).1
            rw [e1] at b1
            have b1 := Option.some.inj b1
            have hi : r.i = j := by rw [b1]
            rw [hi]
            exact ⟨o, ho, b1⟩
          have ofC : ∀ r, r ∈ chainsOf rs → r.i < ops.size ∧ K r.i = .chain ∧ r.m = natAt ms r.i := fun r hr => by
            obtain ⟨h1, h2⟩ := chainsOf_mem.1 hr
            obtain ⟨o, ho, he⟩ := ofR r h1
            refine ⟨opLt ho, ?_, ?_⟩
            · rw [he] at h2; exact h2
            · exact congrArg DR.m he
          have hdr2 : ∀ c, c < ops.size → K c = .chain → readsAt x (chainsOf rs) 0 { s.S with next := Nat.add s.S.next wd } rs = true ∧ readsAll x (chainsOf rs) rs (chainsOf rs) = true ∧
              (orderedC (chainsOf rs) = true ∨ pairsOk x rs (chainsOf rs) (findPair (chainsOf rs)) = true) := fun c hc hk => by
            obtain ⟨r, hr, _⟩ := inC c hc hk
            unfold drawn at hdr
            split at hdr
            · rename_i hnil; rw [hnil] at hr; simp at hr
            · rename_i hcs
              split at hdr
              · rename_i h1
                split at hdr
                · rename_i h2
                  refine ⟨h1, h2, ?_⟩
                  split at hdr
                  · rename_i h3; exact .inl h3
                  · exact .inr hdr
                · cases hdr
              · cases hdr
          obtain ⟨pr, HA, hord, hpair⟩ : ∃ (pr : Option (Nat × Nat)) (HA : AS), (∀ c d, c < d → d < ops.size → K c = .chain → K d = .chain → Nat.testBit (natAt ms d) c = true ∨ pr = some (c, d)) ∧
              (∀ u t, pr = some (u, t) → u < t ∧ t < ops.size ∧ K u = .chain ∧ K t = .chain ∧ (∀ c, u < c → c < t → K c ≠ .chain) ∧ hangs true (natAt ms u) (PD u) = [] ∧ hangs true (natAt ms t) (PD t) = [] ∧
                (∀ r, r < ops.size → K r = .read → Nat.testBit (natAt ms r) u = true ∨ Nat.testBit (natAt ms t) r = true) ∧
                ∃ (ou ot : Oper) (gu gt : AS → Option (Value × AS)) (HZ : AS), ops[u]? = some ou ∧ ops[t]? = some ot ∧ wantedV x ops.toList (F u) ou = some true ∧ wantedV x ops.toList (F t) ot = some true ∧
                  sem x (F u) ou.op = .write gu ∧ sem x (F t) ot.op = .write gt ∧ gt (HH u) = some (V t, HA) ∧ gu HA = some (V u, HZ) ∧ HZ.next = (HH (t + 1)).next ∧ ∀ k, HZ.heap.get k = (HH (t + 1)).heap.get k) := by
            by_cases hoc : orderedC (chainsOf rs) = true
            · refine ⟨none, s.S, fun c d hcd hd hkc hkd => .inl ?_, fun u t hh => by cases hh⟩
              obtain ⟨rc, c1, c2, c3, _⟩ := inC c (by omega) hkc
              obtain ⟨rd, d1, d2, d3, _⟩ := inC d hd hkd
              have := orderedC_all hup2 hoc rc rd c1 d1 (by omega)
              rw [d3, c2] at this; exact this
            · by_cases hany : ∃ c, c < ops.size ∧ K c = .chain
              · obtain ⟨c0, hc0, hk0⟩ := hany
                have hps := ((hdr2 c0 hc0 hk0).2.2).resolve_left hoc
                unfold pairsOk at hps
                split at hps
                · rename_i u t hfp
                  obtain ⟨f1, f2, f3⟩ := findPair_mem hup2 hfp
                  unfold pairOk at hps
                  split at hps
                  case h_2 => cases hps
                  rename_i p1
                  split at hps
                  case h_2 => cases hps
                  rename_i p2
                  split at hps
                  case h_2 => cases hps
                  rename_i p3
                  split at hps
                  case h_2 => cases hps
                  rename_i p4
                  split at hps
                  case h_2 => cases hps
                  rename_i p5
                  have p1 := blt_iff.1 p1
                  have p3 := noHang_of p3
                  have p4 := noHang_of p4
                  obtain ⟨u1, u2⟩ := chainsOf_mem.1 f1
                  obtain ⟨t1, t2⟩ := chainsOf_mem.1 f2
                  obtain ⟨ou, hou, heu⟩ := ofR u u1
                  obtain ⟨ot, hot, het⟩ := ofR t t1
                  have hku : K u.i = .chain := by rw [heu] at u2; exact u2
                  have hkt : K t.i = .chain := by rw [het] at t2; exact t2
                  have hmu : u.m = natAt ms u.i := congrArg DR.m heu
                  have hmt : t.m = natAt ms t.i := congrArg DR.m het
                  have hpu : u.pd = PD u.i := congrArg DR.pd heu
                  have hpt : t.pd = PD t.i := congrArg DR.pd het
                  have hfu : u.f = F u.i := congrArg DR.f heu
                  have hft : t.f = F t.i := congrArg DR.f het
                  have hoou : u.o = ou := congrArg DR.o heu
                  have hoot : t.o = ot := congrArg DR.o het
                  rw [hmu, hpu] at p3
                  rw [hmt, hpt] at p4
                  have hbet : ∀ c, u.i < c → c < t.i → K c ≠ .chain := fun c h1 h2 hk => by
                    obtain ⟨r, r1, r2, _⟩ := inC c (by have := opLt hot; omega) hk
                    exact f3 r r1 ⟨by omega, by omega⟩
                  obtain ⟨i, o, n, j, p, m, q1, q2, q3⟩ := apartS_of p2
                  obtain ⟨ty, a, y, ad, g1, g2, rfl, rfl, rfl⟩ := storeAt_of q1
                  obtain ⟨ty', a', y', ad', k1, k2, rfl, rfl, rfl⟩ := storeAt_of q2
                  rw [hoou] at g1; rw [hoot] at k1
                  rw [hfu] at g2 q3; rw [hft] at k2 q3
                  have su : sem x (F u.i) ou.op = .write (fun S => storeV x S ty (.pointer (some ad)) (ev x (F u.i) y)) := by rw [g1]; simp only [sem]; rw [g2]
                  have st : sem x (F t.i) ot.op = .write (fun S => storeV x S ty' (.pointer (some ad')) (ev x (F t.i) y')) := by rw [k1]; simp only [sem]; rw [k2]
                  have runs : ∀ (r : Nat) (o : Oper) (g : AS → Option (Value × AS)), ops[r]? = some o → K r = .chain → hangs true (natAt ms r) (PD r) = [] → sem x (F r) o.op = .write g → wantedV x ops.toList (F r) o = some true ∧ g (HH r) = some (V r, HH (r + 1)) := fun r o g ho hk hn hs => by
                    rcases drawOne_inv (hgo2 r o ho) with ⟨_, _, h, _⟩ | ⟨hw, ⟨_, _, h, _⟩ | ⟨_, h, _⟩ | ⟨_, _, _, h, _⟩ | ⟨_, ⟨g', h1, h2⟩ | ⟨_, _, h1, _⟩⟩⟩
                    · rw [hk] at h; cases h
                    · rw [hk] at h; cases h
                    · rw [hk] at h; cases h
                    · rw [hk] at h; cases h
                    · rw [hs] at h1
                      cases h1
                      rw [hn] at h2
                      exact ⟨hw, h2⟩
                    · rw [hs] at h1; cases h1
                  obtain ⟨wu, ru⟩ := runs u.i ou _ hou hku p3 su
                  obtain ⟨wt, rt⟩ := runs t.i ot _ hot hkt p4 st
                  have hHt : HH t.i = HH (u.i + 1) := const_of (go := hgo2) t.i (by omega) (by have := opLt hot; omega) fun c h1 h2 => hbet c (by omega) h2
                  rw [hHt] at rt
                  obtain ⟨A, Z, z1, z2, z3, z4⟩ := storeV_comm ru rt q3
                  refine ⟨some (u.i, t.i), A, fun c d hcd hd hkc hkd => ?_, fun u' t' hh => ?_⟩
                  · obtain ⟨rc, c1, c2, c3, _⟩ := inC c (by omega) hkc
                    obtain ⟨rd, d1, d2, d3, _⟩ := inC d hd hkd
                    rcases orderedX_all hup2 p5 rc rd c1 d1 (by omega) with h | ⟨h1, h2⟩
                    · rw [d3, c2] at h; exact .inl h
                    · rw [h1, h2, c2, d2]; exact .inr rfl
                  · cases hh
                    refine ⟨p1, opLt hot, hku, hkt, hbet, p3, p4, fun r hr hk => ?_, ou, ot, _, _, Z, hou, hot, wu, wt, su, st, z1, z2, z3, z4⟩
                    obtain ⟨o, ho⟩ := opAt hr
                    have hmem := List.mem_of_getElem? (hrow2 r o ho).1
                    have := apartReads_all hps _ hmem hk
                    rw [hmt] at this
                    exact this
                · cases hps
              · exact ⟨none, s.S, fun c d hcd hd hkc _ => absurd ⟨c, by omega, hkc⟩ hany, fun u t hh => by cases hh⟩
          have rawI : ∀ i o ob, ops[i]? = some o → K i = .raw ob → rawishOp o.op = true ∧ wd ≠ 0 := fun i o ob ho hk => by
            rcases drawOne_inv (hgo2 i o ho) with ⟨_, _, h, _⟩ | ⟨_, ⟨_, _, _, _, h1, h2⟩ | ⟨_, h, _⟩ | ⟨_, _, _, h, _⟩ | ⟨h, _⟩⟩
            · rw [hk] at h; cases h
            · exact ⟨h1, h2⟩
            · rw [hk] at h; cases h
            · rw [hk] at h; cases h
            · rw [hk] at h; cases h
          have rkE : ∀ i, rk i = s.S.next + rankR ops.toList i := fun i => by rw [← hrkd]; rfl
          refine ⟨rk, wd, natAt ms, F, PD, HH, V, K, pr, HA, ⟨fun i => by rw [rkE]; omega, ?_, ?_, a1, a2, a3, hgo2, fun i o ho => (hrow2 i o ho).2.2.1, ?_, ?_, ?_, ?_, ?_, ?_, hord, hpair, ?_⟩, by simp⟩
          · intro i ob hi hk
            obtain ⟨o, ho⟩ := opAt hi
            obtain ⟨h1, h2⟩ := rawI i o ob ho hk
            have hw : wd = rankR ops.toList ops.toList.length := by
              rcases drawW_or ms ops.toList with hh | hh
              · rw [hwdd] at hh; exact absurd hh h2
              · rw [hwdd] at hh; exact hh
            have := rankR_lt (lk ho) h1 (show i < ops.toList.length by simpa using hi)
            rw [rkE, hw]; omega
          · intro i j oi oj hi hj hki hkj he
            obtain ⟨o, ho⟩ := opAt hi
            obtain ⟨o', ho'⟩ := opAt hj
            rw [rkE, rkE] at he
            rcases Nat.lt_trichotomy i j with hlt | heq | hgt
            · have := rankR_lt (lk ho) (rawI i o oi ho hki).1 hlt; omega
            · exact heq
            · have := rankR_lt (lk ho') (rawI j o' oj ho' hkj).1 hgt; omega
          · intro i hi
            obtain ⟨o, ho⟩ := opAt hi
            exact (hrow2 i o ho).2.2.2
          · intro i o ho t ht
            have := (hmk i o (lk ho)).1
            rw [Nat.zero_add] at this
            rw [this] at ht
            exact maskE_bit ht
          · intro i o ho ed hed hb
            have := (hmk i o (lk ho)).2
            rw [Nat.zero_add] at this
            exact backE_all this ed hed hb
          · refine ⟨R, fun i o ho ed hed hb => ?_⟩
            have := hR i o (lk ho) ed hed hb
            simpa using this
          · intro i o t ho ht j p hj hp
            have := so1 i o (lk ho)
            rw [Nat.zero_add] at this
            rcases ht with ht | ht
            · exact wroteAll_all this.1 t ht j p (lk hj) hp
            · exact wroteAll_all this.2 t ht j p (lk hj) hp
          · intro i j o p d hi hj ho hp
            rcases Nat.lt_trichotomy i j with hlt | heq | hgt
            · exact absurd hp (so2 i j o p d (lk hi) (lk hj) hlt ho)
            · exact heq
            · exact absurd ho (so2 j i p o d (lk hj) (lk hi) hgt hp)
          · intro i o ho hk p hp hst hf1 hf2
            obtain ⟨hr, hgo', _⟩ := hrow2 i o ho
            have hread : wantedV x ops.toList (F i) o = some true ∧ ∃ g, sem x (F i) o.op = .read g ∧ g (HH i) = some (V i) := by
              rcases drawOne_inv hgo' with ⟨_, _, h, _⟩ | ⟨hw, ⟨_, _, h, _⟩ | ⟨_, h, _⟩ | ⟨g, h1, h2, _⟩ | ⟨h, _⟩⟩
              · rw [hk] at h; cases h
              · rw [hk] at h; cases h
              · rw [hk] at h; cases h
              · exact ⟨hw, g, h1, h2⟩
              · rw [hk] at h; cases h
            obtain ⟨hw, g, hg1, hg2⟩ := hread
            have own : p ≤ i → (∀ c, p ≤ c → c < i → K c ≠ .chain) → ∃ g, wantedV x ops.toList (F i) o = some true ∧ sem x (F i) o.op = .read g ∧ g (HH p) = some (V i) := fun h1 h2 => by
              refine ⟨g, hw, hg1, ?_⟩
              rw [← const_of (go := hgo2) i h1 (by have := opLt ho; omega) h2]; exact hg2
            have again : ∀ S, S = HH p → readsAt x (chainsOf rs) p S rs = true → ∃ g, wantedV x ops.toList (F i) o = some true ∧ sem x (F i) o.op = .read g ∧ g (HH p) = some (V i) := fun S hS hra => by
              have := readsAt_all hra _ (List.mem_of_getElem? hr)
              unfold readAt at this
              simp only [hk] at this
              split at this
              · rename_i how
                obtain ⟨o1, o2⟩ := ownP_of how
                refine own o1 fun c hc1 hc2 hkc => ?_
                obtain ⟨r, r1, r2, _⟩ := inC c (by have := opLt ho; omega) hkc
                exact o2 r r1 (by omega) (by rw [r2]; exact hc2)
              · rw [feas_of (fun c hc hcp => ?_) (fun c hc hcp => ?_)] at this
                · unfold readAgain at this
                  simp only [hg1] at this
                  split at this
                  · rename_i v2 hv2
                    rw [hS] at hv2
                    exact ⟨g, hw, hg1, by rw [hv2, veq_ok _ _ _ this]⟩
                  · cases this
                · obtain ⟨k1, k2, k3⟩ := ofC c hc
                  rw [k3]; exact hf1 _ k1 k2 hcp
                · obtain ⟨k1, k2, k3⟩ := ofC c hc
                  exact hf2 _ k1 k2 hcp
            rcases hst with rfl | ⟨c, rfl, hc, hkc⟩
            · by_cases hany : ∃ c, c < ops.size ∧ K c = .chain
              · obtain ⟨c, hc, hkc⟩ := hany
                exact again _ a3.symm (hdr2 c hc hkc).1
              · exact own (Nat.zero_le _) fun c _ hc hkc => hany ⟨c, by have := opLt ho; omega, hkc⟩
            · obtain ⟨r, r1, r2, _, r4⟩ := inC c hc hkc
              have := readsAll_all (hdr2 c hc hkc).2.1 r r1
              rw [r2, r4] at this
              exact again _ rfl this
        · cases hok
      · cases h
    · cases h
  · cases h
end Go.X
