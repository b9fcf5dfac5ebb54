import Derived.Test.YtaknejhfphalaaaGreatDoorXDraw5
import Derived.OrdersIn
/-
  Part twenty-six: a region whose order is drawn, any order.
-/
namespace Go.X
open Go
variable {x : Cx} {call : CallF} {N : Nat}

/-- a block that was made and is not yet taken in -/
def Pend (e : Env) (S : AS) (w : World) (lo i : Nat) (o : AObj) : Prop :=
  ∃ b ob, e.blk i = some (b, 0) ∧ w.heap[b]? = some ob ∧ ObjR e o ob 0 ∧ ¬ liesIn S e b ∧ lo ≤ b
theorem takeIn_ok {e : Env} {w : World} {rk : Nat → Nat} {lo : Nat} (hG : ∀ i, x.G ≤ rk i) (hlo : x.G ≤ lo) : ∀ (l : List (Nat × AObj)) (S : AS), Rel x e S w → (l.map (·.1)).Nodup → (∀ p, p ∈ l → Pend e S w lo (rk p.1) p.2) →
    (∀ p q, p ∈ l → q ∈ l → ∀ b, e.blk (rk p.1) = some (b, 0) → e.blk (rk q.1) = some (b, 0) → p.1 = q.1) →
    Rel x e (takeIn rk l S) w ∧ (takeIn rk l S).next = S.next ∧ ∀ b, liesIn (takeIn rk l S) e b → liesIn S e b ∨ ∃ p, p ∈ l ∧ e.blk (rk p.1) = some (b, 0)
  | [], S, h, _, _, _ => ⟨h, rfl, fun b hb => .inl hb⟩
  | p :: l, S, h, hn, hp, hd => by
    have hdef : takeIn rk (p :: l) S = takeIn rk l { S with heap := S.heap.set (rk p.1) (some p.2) } := rfl
    rw [List.map_cons, List.nodup_cons] at hn
    obtain ⟨hn1, hn2⟩ := hn
    obtain ⟨b, ob, h1, h2, h3, h4, h5⟩ := hp p (by simp)
    have hnone : S.heap.get (rk p.1) = none := by
      cases hg : S.heap.get (rk p.1) with
      | none => rfl
      | some o => exact absurd ⟨_, o, 0, hg, h1⟩ h4
    have had := h.adopt h1 hnone (hG _) (by omega) h2 h3 h4
    have hlie : ∀ c, liesIn { S with heap := S.heap.set (rk p.1) (some p.2) } e c → liesIn S e c ∨ c = b := by
      rintro c ⟨j, o2, sh, hj, hbj⟩
      by_cases hji : j = rk p.1
      · subst hji; rw [h1] at hbj; cases hbj; exact .inr rfl
      · rw [PT.get_set_other _ _ _ _ hji] at hj; exact .inl ⟨j, o2, sh, hj, hbj⟩
    obtain ⟨k1, k2, k3⟩ := takeIn_ok hG hlo l _ had hn2 (fun q hq => by
      obtain ⟨b2, ob2, g1, g2, g3, g4, g5⟩ := hp q (by simp [hq])
      refine ⟨b2, ob2, g1, g2, g3, fun hl => ?_, g5⟩
      rcases hlie b2 hl with hl | rfl
      · exact g4 hl
      · have := hd p q (by simp) (by simp [hq]) b2 h1 g1
        exact hn1 (List.mem_map.2 ⟨q, hq, this.symm⟩)) (fun q r hq hr => hd q r (by simp [hq]) (by simp [hr]))
    rw [hdef]
    refine ⟨k1, k2, fun c hc => ?_⟩
    rcases k3 c hc with hc | ⟨q, hq, hqc⟩
    · rcases hlie c hc with hc | rfl
      · exact .inl hc
      · exact .inr ⟨p, by simp, h1⟩
    · exact .inr ⟨q, by simp [hq], hqc⟩
/-- heaps that hold the same -/
theorem Rel.same {e : Env} {S S' : AS} {w : World} (h : Rel x e S w) (hn : S.next = S'.next) (hg : ∀ k, S.heap.get k = S'.heap.get k) : Rel x e S' w :=
  ⟨by rw [← hn]; exact h.fresh, fun i hi => by rw [← hg]; exact h.low i hi, by rw [← hn]; exact h.next, fun i o ho => h.obj i o (by rw [hg]; exact ho),
   fun i j o o' b sh sh' hi hj => h.inj i j o o' b sh sh' (by rw [hg]; exact hi) (by rw [hg]; exact hj), h.size, h.bnd, h.glob, h.gval, h.gsz⟩
theorem Stp.same {e e1 : Env} {S S1 S2 : AS} {w w1 : World} (h : Stp x e S w e1 S1 w1) (hn : S1.next = S2.next) (hg : ∀ k, S1.heap.get k = S2.heap.get k) : Stp x e S w e1 S2 w1 :=
  ⟨h.rel.same hn hg, h.le, h.os, h.tape, h.output, h.grow, h.keep, fun b hb ⟨i, o, sh, hi, hbi⟩ => h.live b hb ⟨i, o, sh, by rw [hg]; exact hi, hbi⟩, by rw [← hn]; exact h.next, h.old⟩

section
variable {ops : Array Oper} {s : St} {rk : Nat → Nat} {wd : Nat} {M : Nat → Nat} {F : Nat → Fr} {PD : Nat → List (Nat × AObj)} {HH : Nat → AS} {V : Nat → Value} {K : Nat → Kd} {pr : Option (Nat × Nat)} {HA : AS}
variable {e : Env} {w : World}

def On (listed : Array Bool) (i : Nat) : Prop := listed.getD i false = true
/-- the heap that belongs to the chained operations done -/
def Good (ops : Array Oper) (HH : Nat → AS) (K : Nat → Kd) (pr : Option (Nat × Nat)) (HA : AS) (listed : Array Bool) (H : AS) : Prop :=
  (∃ p, p ≤ ops.size ∧ (p = 0 ∨ ∃ c, p = c + 1 ∧ c < ops.size ∧ K c = .chain) ∧ (∀ c, c < ops.size → K c = .chain → (On listed c ↔ c < p)) ∧ H = HH p) ∨
  (∃ u t, pr = some (u, t) ∧ (∀ c, c < ops.size → K c = .chain → (On listed c ↔ c < u ∨ c = t)) ∧ H = HA)
/-- not yet taken in -/
def UnL (ops : Array Oper) (M : Nat → Nat) (K : Nat → Kd) (listed : Array Bool) (j : Nat) : Prop := ∀ c, c < ops.size → K c = .chain → On listed c → Nat.testBit (M c) j = false
/-- what holds while the region's operations come one by one -/
structure Inv (x : Cx) (N : Nat) (ops : Array Oper) (s : St) (rk : Nat → Nat) (wd : Nat) (M : Nat → Nat) (HH : Nat → AS) (V : Nat → Value) (K : Nat → Kd) (pr : Option (Nat × Nat)) (HA : AS) (e : Env) (w : World)
    (listed : Array Bool) (H : AS) (f : Fr) (e1 : Env) (a1 : Act) (w1 : World) : Prop where
  len : listed.size = ops.size
  st : Stp x e s.S w e1 H w1
  sr : SR x e1 N ⟨f, s.ds, H⟩ a1
  fset : ∀ (j : Nat) (o : Oper) (t : Nat), On listed j → ops[j]? = some o → o.dst = some t → f.get t = some (V j)
  fold : ∀ t, (∀ (j : Nat) (o : Oper), On listed j → ops[j]? = some o → o.dst ≠ some t) → f.get t = s.f.get t
  good : Good ops HH K pr HA listed H
  down : ∀ i, i < ops.size → On listed i → ∀ j, Nat.testBit (M i) j = true → On listed j
  unmade : ∀ i ob, i < ops.size → K i = .raw ob → ¬ On listed i → e1.blk (rk i) = none
  pend : ∀ i ob, i < ops.size → K i = .raw ob → On listed i → UnL ops M K listed i → Pend e1 H w1 w.heap.size (rk i) ob
  dist : ∀ i j oi oj b, i < ops.size → j < ops.size → K i = .raw oi → K j = .raw oj → On listed i → On listed j → UnL ops M K listed i → UnL ops M K listed j → e1.blk (rk i) = some (b, 0) → e1.blk (rk j) = some (b, 0) → i = j
  nx : s.S.next + wd ≤ H.next

theorem on_set {listed : Array Bool} {i j : Nat} (hi : i < listed.size) : On (listed.setIfInBounds i true) j ↔ j = i ∨ On listed j := by
  unfold On
  by_cases hji : j = i
  · subst hji; simp [Array.getD, hi]
  · have : (listed.setIfInBounds i true).getD j false = listed.getD j false := by
      simp only [Array.getD_eq_getD_getElem?, Array.getElem?_setIfInBounds_ne (Ne.symm hji)]
    rw [this]; simp [hji]
variable {listed : Array Bool} {H : AS} {f : Fr} {e1 : Env} {a1 : Act} {w1 : World}
theorem Inv.ready (hc : Cert x call N ops s rk wd M F PD HH V K pr HA) (hv : Inv x N ops s rk wd M HH V K pr HA e w listed H f e1 a1 w1)
    {md : Region.Mode} {i : Nat} (hi : i ∈ Region.ready md ops listed) : ¬ On listed i ∧ ∃ o, ops[i]? = some o ∧ ∀ j, Nat.testBit (M i) j = true → On listed j := by
  obtain ⟨h1, o, ho, h2⟩ := mem_ready.1 hi
  have hlt := opLt ho
  refine ⟨fun hon => ?_, o, ho, fun j hj => ?_⟩
  · unfold On at hon
    rw [← hv.len] at hlt
    simp [Array.getD, hlt] at h1 hon
    rw [h1] at hon; cases hon
  · obtain ⟨ed, h3, h4, h5⟩ := hc.mask i o ho j hj
    have hon : On listed ed.on := h2 ed (by simpa using h3) (binds_any h4)
    rcases h5 with rfl | h5
    · exact hon
    · exact hv.down ed.on (by have := hc.back i o ho ed h3 (binds_any h4); omega) hon j h5
theorem Inv.same (hc : Cert x call N ops s rk wd M F PD HH V K pr HA) (hv : Inv x N ops s rk wd M HH V K pr HA e w listed H f e1 a1 w1)
    {i : Nat} {o : Oper} (ho : ops[i]? = some o) (hni : ¬ On listed i) (hd : ∀ j, Nat.testBit (M i) j = true → On listed j) : Same (F i) f (seen o.op) ∧ Same (F i) f (guardT ops.toList o) := by
  have key : ∀ t, (t ∈ seen o.op ∨ t ∈ guardT ops.toList o) → (F i).get t = f.get t := fun t ht => by
    by_cases hex : ∃ (j : Nat) (p : Oper), ops[j]? = some p ∧ p.dst = some t
    · obtain ⟨j, q, hj, hq⟩ := hex
      have hi := opLt ho
      have after : i ≤ j → ¬ On listed j → (F i).get t = f.get t := fun hij hnj => by
        rw [hc.fold i (by omega) t fun k p hk hp hpt => by have := hc.uniq k j p q t hp hj hpt hq; omega, hv.fold t fun k p hk hp hpt => hnj (hc.uniq k j p q t hp hj hpt hq ▸ hk)]
      rcases hc.looks i o t ho ht j q hj hq with hb | hb | hb
      · rw [hc.fset i (by omega) j q t (hc.bit_lt i hi j hb) hj hq, hv.fset j q t (hd j hb) hj hq]
      · subst hb; exact after (Nat.le_refl _) hni
      · exact after (by have := hc.bit_lt j (opLt hj) i hb; omega) fun hon => hni (hv.down j (opLt hj) hon i hb)
    · rw [hc.fold i (by have := opLt ho; omega) t fun j q _ hj hq => hex ⟨j, q, hj, hq⟩, hv.fold t fun j q _ hj hq => hex ⟨j, q, hj, hq⟩]
  exact ⟨fun t ht => key t (.inl ht), fun t ht => key t (.inr ht)⟩
/-- the frame after one operation more -/
theorem frame_next {f1 : Fr} (hc : Cert x call N ops s rk wd M F PD HH V K pr HA) (hfs : ∀ (j : Nat) (o : Oper) (t : Nat), On listed j → ops[j]? = some o → o.dst = some t → f.get t = some (V j))
    (hfo : ∀ t, (∀ (j : Nat) (o : Oper), On listed j → ops[j]? = some o → o.dst ≠ some t) → f.get t = s.f.get t) {i : Nat} {o : Oper} (hi : i < listed.size) (ho : ops[i]? = some o) (hf : putV N f o.dst (V i) = some f1) :
    (∀ (j : Nat) (o : Oper) (t : Nat), On (listed.setIfInBounds i true) j → ops[j]? = some o → o.dst = some t → f1.get t = some (V j)) ∧
    (∀ t, (∀ (j : Nat) (o : Oper), On (listed.setIfInBounds i true) j → ops[j]? = some o → o.dst ≠ some t) → f1.get t = s.f.get t) := by
  unfold putV at hf
  split at hf
  · rename_i hd
    cases hf
    refine ⟨fun j q t hj hq ht => ?_, fun t ht => hfo t fun j q hj => ht j q ((on_set hi).2 (.inr hj))⟩
    rcases (on_set hi).1 hj with rfl | hj
    · rw [ho] at hq; cases hq; rw [hd] at ht; cases ht
    · exact hfs j q t hj hq ht
  · rename_i d hd
    split at hf
    · cases hf
      refine ⟨fun j q t hj hq ht => ?_, fun t ht => ?_⟩
      · by_cases hji : j = i
        · subst hji
          rw [ho] at hq; cases hq
          rw [hd] at ht; cases ht
          rw [PT.get_set_same]
        · rw [PT.get_set_other _ _ _ _ (fun hh => hji (hc.uniq j i q o t hq ho ht (by rw [hd, hh])))]
          rcases (on_set hi).1 hj with hj | hj
          · exact absurd hj hji
          · exact hfs j q t hj hq ht
      · rw [PT.get_set_other _ _ _ _ (fun hh => ht i o ((on_set hi).2 (.inl rfl)) ho (by rw [hd, hh]))]
        exact hfo t fun j q hj => ht j q ((on_set hi).2 (.inr hj))
    · cases hf
theorem down_next (hdn : ∀ i, i < ops.size → On listed i → ∀ j, Nat.testBit (M i) j = true → On listed j) {i : Nat} (hi : i < listed.size) (hd : ∀ j, Nat.testBit (M i) j = true → On listed j) :
    ∀ k, k < ops.size → On (listed.setIfInBounds i true) k → ∀ j, Nat.testBit (M k) j = true → On (listed.setIfInBounds i true) j := fun k hk hon j hj => by
  rcases (on_set hi).1 hon with rfl | hon
  · exact (on_set hi).2 (.inr (hd j hj))
  · exact (on_set hi).2 (.inr (hdn k hk hon j hj))
theorem Inv.take (hrel : Rel x e s.S w) (hc : Cert x call N ops s rk wd M F PD HH V K pr HA) (hv : Inv x N ops s rk wd M HH V K pr HA e w listed H f e1 a1 w1)
    {l : List (Nat × AObj)} (hl : ∀ q, q ∈ l → q.1 < ops.size ∧ K q.1 = .raw q.2 ∧ On listed q.1 ∧ UnL ops M K listed q.1) (hn : (l.map (·.1)).Nodup) :
    Stp x e s.S w e1 (takeIn rk l H) w1 ∧ (takeIn rk l H).next = H.next ∧ ∀ b, liesIn (takeIn rk l H) e1 b → liesIn H e1 b ∨ ∃ q, q ∈ l ∧ e1.blk (rk q.1) = some (b, 0) := by
  obtain ⟨h1, h2, h3⟩ := takeIn_ok (x := x) (lo := w.heap.size) (rk := rk) (fun i => Nat.le_trans hrel.next (hc.hrk i)) hrel.gsz l H hv.st.rel hn
    (fun q hq => by obtain ⟨g1, g2, g3, g4⟩ := hl q hq; exact hv.pend q.1 q.2 g1 g2 g3 g4)
    (fun q r hq hr b hb1 hb2 => by
      obtain ⟨g1, g2, g3, g4⟩ := hl q hq
      obtain ⟨k1, k2, k3, k4⟩ := hl r hr
      exact hv.dist q.1 r.1 q.2 r.2 b g1 k1 g2 k2 g3 k3 g4 k4 hb1 hb2)
  refine ⟨⟨h1, hv.st.le, hv.st.os, hv.st.tape, hv.st.output, hv.st.grow, hv.st.keep, fun b hb hlb => ?_, by rw [h2]; exact hv.st.next, hv.st.old⟩, h2, h3⟩
  rcases h3 b hlb with hlb | ⟨q, hq, hqb⟩
  · exact hv.st.live b hb hlb
  · obtain ⟨g1, g2, g3, g4⟩ := hl q hq
    obtain ⟨b2, _, k1, _, _, _, k5⟩ := hv.pend q.1 q.2 g1 g2 g3 g4
    rw [k1] at hqb; cases hqb; omega
theorem Inv.next (hrel : Rel x e s.S w) (hc : Cert x call N ops s rk wd M F PD HH V K pr HA) (hv : Inv x N ops s rk wd M HH V K pr HA e w listed H f e1 a1 w1)
    {i : Nat} {o : Oper} (ho : ops[i]? = some o) (hd : ∀ j, Nat.testBit (M i) j = true → On listed j) {l : List (Nat × AObj)} {H' : AS}
    (hl : ∀ q, q ∈ l → q.1 < ops.size ∧ K q.1 = .raw q.2 ∧ On listed q.1 ∧ UnL ops M K listed q.1 ∧ ¬ UnL ops M K (listed.setIfInBounds i true) q.1) (hn : (l.map (·.1)).Nodup)
    (hg : Good ops HH K pr HA (listed.setIfInBounds i true) H') (hraw : ∀ ob, K i ≠ .raw ob) {e2 : Env} {a2 : Act} {w2 : World} {f1 : Fr}
    (hs : Stp x e1 (takeIn rk l H) w1 e2 H' w2) (hsr : SR x e2 N ⟨f1, s.ds, H'⟩ a2) (hf : putV N f o.dst (V i) = some f1) :
    Inv x N ops s rk wd M HH V K pr HA e w (listed.setIfInBounds i true) H' f1 e2 a2 w2 := by
  have hlt := opLt ho
  have hil : i < listed.size := by rw [hv.len]; exact hlt
  obtain ⟨t1, t2, t3⟩ := hv.take hrel hc (l := l) (fun q hq => let ⟨a, b, c, d, _⟩ := hl q hq; ⟨a, b, c, d⟩) hn
  obtain ⟨fr1, fr2⟩ := frame_next hc hv.fset hv.fold hil ho hf
  have unp : ∀ j, UnL ops M K (listed.setIfInBounds i true) j → UnL ops M K listed j := fun j hu c hcc hk hon => hu c hcc hk ((on_set hil).2 (.inr hon))
  have old : ∀ j ob, j < ops.size → K j = .raw ob → On (listed.setIfInBounds i true) j → On listed j := fun j ob hj hk hon => by
    rcases (on_set hil).1 hon with rfl | hon
    · exact absurd hk (hraw ob)
    · exact hon
  have hblk : ∀ j ob, j < ops.size → K j = .raw ob → On listed j → UnL ops M K listed j → e2.blk (rk j) = e1.blk (rk j) := fun j ob hj hk hon hu => by
    obtain ⟨b, _, h1, _⟩ := hv.pend j ob hj hk hon hu
    rw [h1, hs.le.blk _ _ h1]
  refine ⟨by simp [hv.len], t1.trans hs, hsr, fr1, fr2, hg, down_next hv.down hil hd, ?_, ?_, ?_, ?_⟩
  · intro j ob hj hk hnon
    have h1 := hv.unmade j ob hj hk fun hon => hnon ((on_set hil).2 (.inr hon))
    refine hs.old _ ?_ h1
    rw [t2]
    have := hv.nx
    have := hc.hwd j ob hj hk
    omega
  · intro j ob hj hk hon hu
    have hon := old j ob hj hk hon
    obtain ⟨b, ob2, h1, h2, h3, h4, h5⟩ := hv.pend j ob hj hk hon (unp j hu)
    have hblt : b < w1.heap.size := (Array.getElem?_eq_some_iff.1 h2).1
    have hnl : ¬ liesIn (takeIn rk l H) e1 b := fun hlb => by
      rcases t3 b hlb with hlb | ⟨q, hq, hqb⟩
      · exact h4 hlb
      · obtain ⟨g1, g2, g3, g4, g5⟩ := hl q hq
        have := hv.dist j q.1 ob q.2 b hj g1 hk g2 hon g3 (unp j hu) g4 h1 hqb
        subst this
        exact g5 hu
    exact ⟨b, ob2, hs.le.blk _ _ h1, by rw [hs.keep b hblt hnl]; exact h2, h3.mono hs.le, fun hlb => hnl (hs.live b hblt hlb), h5⟩
  · intro j k oj ok b hj hk hkj hkk honj honk huj huk hbj hbk
    have honj := old j oj hj hkj honj
    have honk := old k ok hk hkk honk
    rw [hblk j oj hj hkj honj (unp j huj)] at hbj
    rw [hblk k ok hk hkk honk (unp k huk)] at hbk
    exact hv.dist j k oj ok b hj hk hkj hkk honj honk (unp j huj) (unp k huk) hbj hbk
  · have := hs.next
    have := hv.nx
    rw [t2] at *
    omega
/-- an operation that is no link of the chain -/
theorem Good.still {i : Nat} (hi : i < listed.size) (hk : K i ≠ .chain) (h : Good ops HH K pr HA listed H) : Good ops HH K pr HA (listed.setIfInBounds i true) H := by
  have on : ∀ c, K c = .chain → (On (listed.setIfInBounds i true) c ↔ On listed c) := fun c hkc => by
    rw [on_set hi]
    exact ⟨fun h => h.resolve_left fun hh => by subst hh; exact hk hkc, .inr⟩
  rcases h with ⟨p, h1, h2, h3, h4⟩ | ⟨u, t, h1, h3, h4⟩
  · exact .inl ⟨p, h1, h2, fun c hc hkc => by rw [on c hkc]; exact h3 c hc hkc, h4⟩
  · exact .inr ⟨u, t, h1, fun c hc hkc => by rw [on c hkc]; exact h3 c hc hkc, h4⟩
end
end Go.X
