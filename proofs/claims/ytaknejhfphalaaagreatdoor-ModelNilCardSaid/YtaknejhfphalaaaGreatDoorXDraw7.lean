import Derived.Test.YtaknejhfphalaaaGreatDoorXDraw6
/-
  Part twenty-seven: DrawOK.
-/
namespace Go.X
open Go
variable {x : Cx} {call : CallF} {N : Nat}
variable {ops : Array Oper} {s : St} {rk : Nat → Nat} {wd : Nat} {M : Nat → Nat} {F : Nat → Fr} {PD : Nat → List (Nat × AObj)} {HH : Nat → AS} {V : Nat → Value} {K : Nat → Kd} {pr : Option (Nat × Nat)} {HA : AS}
variable {e : Env} {w : World} {listed : Array Bool} {H : AS} {f : Fr} {e1 : Env} {a1 : Act} {w1 : World}

theorem putV_any {f g g1 : Fr} {dst : Option Nat} {v : Value} (h : putV N g dst v = some g1) : ∃ f1, putV N f dst v = some f1 := by
  unfold putV at *
  split at h
  · exact ⟨_, rfl⟩
  · rename_i d
    split at h
    · exact ⟨_, rfl⟩
    · cases h
theorem st_put {f f1 : Fr} {ds : List DE} {S S1 : AS} {dst : Option Nat} {v : Value} (h : putV N f dst v = some f1) : St.put N ⟨f, ds, S⟩ dst v S1 = some ⟨f1, ds, S1⟩ := by
  unfold St.put
  simp only
  rw [h]
theorem Inv.raw (hc : Cert x call N ops s rk wd M F PD HH V K pr HA) (hv : Inv x N ops s rk wd M HH V K pr HA e w listed H f e1 a1 w1)
    {i : Nat} {o : Oper} (ho : ops[i]? = some o) (hi : ¬ On listed i) (hd : ∀ j, Nat.testBit (M i) j = true → On listed j) {ob : AObj} (hk : K i = .raw ob)
    {ob2 : Obj} {v' : Value} {f1 : Fr} (h1 : ObjR (e1.add (rk i) w1.heap.size 0 (sizeOfObj ob2)) ob ob2 0) (h2 : VR (e1.add (rk i) w1.heap.size 0 (sizeOfObj ob2)) (V i) v') (hf : putV N f o.dst (V i) = some f1) :
    Inv x N ops s rk wd M HH V K pr HA e w (listed.setIfInBounds i true) H f1 (e1.add (rk i) w1.heap.size 0 (sizeOfObj ob2)) (a1.put o.dst v') { w1 with heap := w1.heap.push ob2 } := by
  have hlt := opLt ho
  have hil : i < listed.size := by rw [hv.len]; exact hlt
  have hnone := hv.unmade i ob hlt hk hi
  have hle : e1.le (e1.add (rk i) w1.heap.size 0 (sizeOfObj ob2)) := Env.le_add hnone
  have hblk : ∀ j, j ≠ rk i → (e1.add (rk i) w1.heap.size 0 (sizeOfObj ob2)).blk j = e1.blk j := fun j hj => by simp [Env.add, hj]
  have hself : (e1.add (rk i) w1.heap.size 0 (sizeOfObj ob2)).blk (rk i) = some (w1.heap.size, 0) := by simp [Env.add]
  have hne : ∀ j oj, j < ops.size → K j = .raw oj → j ≠ i → rk j ≠ rk i := fun j oj hj hkj hji hh => hji (hc.rinj j i oj ob hj hlt hkj hk hh)
  have hold : ∀ b, b < w1.heap.size → (w1.heap.push ob2)[b]? = w1.heap[b]? := fun b hb => by rw [Array.getElem?_push, if_neg (by omega)]
  have hlies : ∀ b, liesIn H (e1.add (rk i) w1.heap.size 0 (sizeOfObj ob2)) b → liesIn H e1 b := by
    rintro b ⟨j, o2, sh, hj, hbj⟩
    obtain ⟨b2, sh2, _, k1, _⟩ := hv.st.rel.obj j o2 hj
    have hne : j ≠ rk i := fun hh => by rw [hh, hnone] at k1; cases k1
    exact ⟨j, o2, sh, hj, by rw [hblk j hne] at hbj; exact hbj⟩
  have hbnd : ∀ b, liesIn H e1 b → b < w1.heap.size := by
    rintro b ⟨j, o2, sh, hj, hbj⟩
    exact hv.st.rel.bnd _ _ _ hbj
  obtain ⟨fr1, fr2⟩ := frame_next hc hv.fset hv.fold hil ho hf
  have hold2 : ∀ j, j ≠ i → (On (listed.setIfInBounds i true) j ↔ On listed j) := fun j hj => by rw [on_set hil]; simp [hj]
  have hun : ∀ j, UnL ops M K (listed.setIfInBounds i true) j → UnL ops M K listed j := fun j hu c hcc hkc hon => hu c hcc hkc ((on_set hil).2 (.inr hon))
  refine ⟨by simp [hv.len], ?_, ?_, fr1, fr2, Good.still hil (by rw [hk]; simp) hv.good, down_next hv.down hil hd, ?_, ?_, ?_, hv.nx⟩
  · refine ⟨hv.st.rel.reserve hnone (by have := hv.nx; have := hc.hwd i ob hlt hk; omega) ob2, hv.st.le.trans hle, hv.st.os, hv.st.tape, hv.st.output, ?_, fun b hb hn => ?_, fun b hb hl => hv.st.live b hb (hlies b hl), hv.st.next, fun j hj hb => ?_⟩
    · have := hv.st.grow; simp; omega
    · have := hv.st.grow
      rw [show ({ w1 with heap := w1.heap.push ob2 } : World).heap = w1.heap.push ob2 from rfl, hold b (by omega)]; exact hv.st.keep b hb hn
    · have := hc.hrk i
      rw [hblk j (by omega)]; exact hv.st.old j hj hb
  · exact ((hv.sr.mono hle).put h2 (st_put hf)).1
  · intro j oj hj hkj hnon
    have hji : j ≠ i := fun hh => by subst hh; exact hnon ((on_set hil).2 (.inl rfl))
    rw [hblk _ (hne j oj hj hkj hji)]
    exact hv.unmade j oj hj hkj fun hon => hnon ((on_set hil).2 (.inr hon))
  · intro j oj hj hkj hon hu
    by_cases hji : j = i
    · subst hji
      rw [hk] at hkj; cases hkj
      exact ⟨w1.heap.size, ob2, hself, by simp, h1, fun hl => by have := hbnd _ (hlies _ hl); omega, hv.st.grow⟩
    · obtain ⟨b, ob3, g1, g2, g3, g4, g5⟩ := hv.pend j oj hj hkj ((hold2 j hji).1 hon) (hun j hu)
      have hblt : b < w1.heap.size := (Array.getElem?_eq_some_iff.1 g2).1
      exact ⟨b, ob3, by rw [hblk _ (hne j oj hj hkj hji)]; exact g1, by rw [show ({ w1 with heap := w1.heap.push ob2 } : World).heap = w1.heap.push ob2 from rfl, hold b hblt]; exact g2, g3.mono hle, fun hl => g4 (hlies _ hl), g5⟩
  · intro j k oj ok b hj hkk hkj hkk2 honj honk huj huk hbj hbk
    by_cases hji : j = i <;> by_cases hki : k = i
    · omega
    · subst hji
      rw [hself] at hbj; cases hbj
      rw [hblk _ (hne k ok hkk hkk2 hki)] at hbk
      have := hv.st.rel.bnd _ _ _ hbk; omega
    · subst hki
      rw [hself] at hbk; cases hbk
      rw [hblk _ (hne j oj hj hkj hji)] at hbj
      have := hv.st.rel.bnd _ _ _ hbj; omega
    · rw [hblk _ (hne j oj hj hkj hji)] at hbj
      rw [hblk _ (hne k ok hkk hkk2 hki)] at hbk
      exact hv.dist j k oj ok b hj hkk hkj hkk2 ((hold2 j hji).1 honj) ((hold2 k hki).1 honk) (hun j huj) (hun k huk) hbj hbk
theorem count_set : ∀ {l : List Bool} {i : Nat}, l[i]? = some false → (l.set i true).count false + 1 = l.count false
  | [], i, h => by simp at h
  | b :: l, 0, h => by simp at h; subst h; simp
  | b :: l, i + 1, h => by
    simp at h
    have := count_set h
    simp [List.count_cons]
    omega
theorem all_on' (hlen : listed.size = ops.size) (hback : ∀ (i : Nat) (o : Oper), ops[i]? = some o → ∀ ed : Edge, ed ∈ o.after.toList → Region.binds .text ed = true → ed.on < i)
    (hrank : ∃ R : Nat → Nat, ∀ (i : Nat) (o : Oper), ops[i]? = some o → ∀ ed : Edge, ed ∈ o.after.toList → Region.binds .gc ed = true → R ed.on < R i ∧ ed.on < ops.size) {md : Region.Mode} (hr : Region.ready md ops listed = []) : ∀ i, i < ops.size → On listed i := by
  obtain ⟨R, hR⟩ : ∃ R : Nat → Nat, ∀ (i : Nat) (o : Oper), ops[i]? = some o → ∀ ed : Edge, ed ∈ o.after.toList → Region.binds md ed = true → R ed.on < R i ∧ ed.on < ops.size := by
    have low : (∀ ed : Edge, Region.binds md ed = true → Region.binds .text ed = true) → ∃ R : Nat → Nat, ∀ (i : Nat) (o : Oper), ops[i]? = some o → ∀ ed : Edge, ed ∈ o.after.toList → Region.binds md ed = true → R ed.on < R i ∧ ed.on < ops.size := fun hm =>
      ⟨fun i => i, fun i o ho ed hed hb => by
        have h1 := hback i o ho ed hed (hm ed hb)
        have h2 := opLt ho
        exact ⟨h1, by omega⟩⟩
    cases md with
    | gc => exact hrank
    | text => exact low fun _ h => h
    | any => exact low fun _ h => binds_any h
  intro i
  generalize hm : R i = m
  induction m using Nat.strongRecOn generalizing i with
  | ind m ih =>
    intro hi
    obtain ⟨o, ho⟩ := opAt hi
    cases hon : listed.getD i false with
    | true => exact hon
    | false =>
      have hmem : i ∈ Region.ready md ops listed := by
        rw [mem_ready]
        refine ⟨?_, o, ho, fun ed hed hb => ?_⟩
        · have hlt : i < listed.size := by omega
          simp [Array.getD, hlt] at hon ⊢; exact hon
        · obtain ⟨h1, h2⟩ := hR i o ho ed (by simpa using hed) hb
          exact ih (R ed.on) (by omega) ed.on rfl h2
      rw [hr] at hmem; simp at hmem
theorem all_on (hlen : listed.size = ops.size) (hc : Cert x call N ops s rk wd M F PD HH V K pr HA) {md : Region.Mode} (hr : Region.ready md ops listed = []) : ∀ i, i < ops.size → On listed i :=
  all_on' hlen hc.back hc.rank hr
theorem any_ok (hx : CxOK x) (hcall : CallOK x call) (hrel : Rel x e s.S w) (hc : Cert x call N ops s rk wd M F PD HH V K pr HA) {r : Option Nat} {n : Nat} {md : Region.Mode} {Q : Exit → Act → World → Prop}
    (hQ : ∀ listed H f e1 a1 w1, Inv x N ops s rk wd M HH V K pr HA e w listed H f e1 a1 w1 → (∀ i, i < ops.size → On listed i) → Q .normal a1 w1) :
    ∀ (fuel : Nat) (listed : Array Bool) (H : AS) (f : Fr) (e1 : Env) (a1 : Act) (w1 : World), Inv x N ops s rk wd M HH V K pr HA e w listed H f e1 a1 w1 → listed.toList.count false ≤ fuel → wpAnyIn (FF r) n x.P md ops Q fuel listed a1 w1 := by
  intro fuel
  induction fuel with
  | zero =>
    intro listed H f e1 a1 w1 hv hcnt
    have hon : ∀ i, i < ops.size → On listed i := fun i hi => by
      have h0 : false ∉ listed.toList := List.count_eq_zero.1 (by omega)
      have hlt : i < listed.size := by rw [hv.len]; exact hi
      unfold On
      simp only [Array.getD, hlt, dif_pos]
      show listed[i] = true
      cases hb : listed[i] with
      | true => rfl
      | false => exact absurd (by rw [← hb]; simp) h0
    refine ⟨?_, hQ listed H f e1 a1 w1 hv hon⟩
    cases hr : Region.ready md ops listed with
    | nil => rfl
    | cons j js =>
      have hm : j ∈ Region.ready md ops listed := by rw [hr]; simp
      obtain ⟨h1, o, ho, _⟩ := hv.ready hc hm
      exact absurd (hon j (opLt ho)) h1
  | succ fuel ih =>
    intro listed H f e1 a1 w1 hv hcnt
    refine ⟨fun hr => hQ listed H f e1 a1 w1 hv (all_on hv.len hc hr), fun i hi => ?_⟩
    obtain ⟨hni, o, ho, hd⟩ := hv.ready hc hi
    have hlt := opLt ho
    have hil : i < listed.size := by rw [hv.len]; exact hlt
    have hcnt2 : (listed.setIfInBounds i true).toList.count false ≤ fuel := by
      have : listed.toList[i]? = some false := by
        unfold On at hni
        simp only [Array.getD, hil, dif_pos] at hni
        have hni : listed[i] ≠ true := hni
        rw [Array.getElem?_toList, Array.getElem?_eq_getElem hil]
        cases hb : listed[i] with
        | true => exact absurd hb hni
        | false => rfl
      have := count_set this
      rw [Array.toList_setIfInBounds]
      omega
    obtain ⟨hs1, hs2⟩ := hv.same hc ho hni hd
    obtain ⟨f1, hf⟩ := putV_any (f := f) (hc.put i o ho)
    have srAny : ∀ S, SR x e1 N ⟨f, s.ds, S⟩ a1 := fun S => ⟨hv.sr.fr, hv.sr.ds⟩
    have hsem := sem_same (x := x) (op := o.op) hs1
    have hwan := wanted_same (x := x) (o := o) hs2
    unfold wpOpIn
    simp only [ho]
    -- an operation that leaves the heap as it is
    have quiet : K i ≠ .chain → (∀ ob, K i ≠ .raw ob) → ∀ s1, s1 = (⟨f1, s.ds, H⟩ : St) → ∀ a2 w2, Aft x e1 H w1 N s1 a2 w2 → wpAnyIn (FF r) n x.P md ops Q fuel (listed.setIfInBounds i true) a2 w2 := by
      intro hk1 hk2 s1 hs1' a2 w2 haft
      subst hs1'
      obtain ⟨e2, h3, h4⟩ := haft
      exact ih _ H f1 e2 a2 w2 (hv.next hrel hc ho hd (l := []) (fun q hq => by simp at hq) List.nodup_nil (Good.still hil hk1 hv.good) hk2 h3 h4 hf) hcnt2
    rcases drawOne_inv (hc.go i o ho) with ⟨hw, hvi, hki, _⟩ | ⟨hw, hcase⟩
    · rw [hwan] at hw
      have hw2 := wanted_ok hv.sr.fr hw
      simp only [hw2, Bool.false_eq_true, if_false]
      refine ⟨fun _ _ => trivial, ?_⟩
      rw [hvi] at hf
      exact quiet (by rw [hki]; simp) (by rw [hki]; simp) _ (by rfl) _ _ ⟨e1, .refl hv.st.rel, (hv.sr.put .undef (st_put (S1 := H) hf)).1⟩
    · rw [hwan] at hw
      have hw2 := wanted_ok hv.sr.fr hw
      simp only [hw2, if_true]
      rcases hcase with ⟨ob, hr, hki, _, _, _⟩ | ⟨hse, hki, _⟩ | ⟨_, _, _, hki, _⟩ | ⟨hki, hch⟩
      · rw [rawOp_same hs1] at hr
        obtain ⟨sm, h1, v', ob2, h2, h3, h4⟩ := raw_ok hv.st.rel hv.sr.fr (hv.unmade i ob hlt hki hni) hr
        refine upon_value (v := v') ?_ (ih _ H f1 _ _ _ (hv.raw hc ho hni hd hki h3 h4 hf) hcnt2)
        rw [h1]
        simp only [valueOf, Sem.run_bind, h2, Result.andThen_ok, Sem.run_pure]
      · rw [hsem] at hse
        refine doOp_ok (s := ⟨f, s.ds, H⟩) (s1 := ⟨f1, s.ds, H⟩) hx hcall hv.st.rel (srAny _) ?_ (fun a2 w2 haft => quiet (by rw [hki]; simp) (by rw [hki]; simp) _ rfl a2 w2 haft)
        unfold doOp
        simp only [hse, St.putO]
        exact st_put hf
      · obtain ⟨g, hse, hg⟩ : ∃ g, sem x (F i) o.op = .read g ∧ g H = some (V i) := by
          rcases hv.good with ⟨p, hp1, hp2, hp3, rfl⟩ | ⟨u, t, hp1, hp3, rfl⟩
          · obtain ⟨g, _, hse, hg⟩ := hc.reads i o ho hki p hp1 hp2
              (fun c hcc hkc hcp => by
                cases hb : Nat.testBit (M c) i with
                | false => rfl
                | true => exact absurd (hv.down c hcc ((hp3 c hcc hkc).2 hcp) i hb) hni)
              (fun c hcc hkc hpc => by
                cases hb : Nat.testBit (M i) c with
                | false => rfl
                | true => have := (hp3 c hcc hkc).1 (hd c hb); omega)
            exact ⟨g, hse, hg⟩
          · obtain ⟨hut, htl, hku, hkt, _, _, _, hrd, _⟩ := hc.pair u t hp1
            exfalso
            rcases hrd i hlt hki with hb | hb
            · rcases (hp3 u (by omega) hku).1 (hd u hb) with h | h <;> omega
            · exact hni (hv.down t htl ((hp3 t htl hkt).2 (.inr rfl)) i hb)
        rw [hsem] at hse
        refine doOp_ok (s := ⟨f, s.ds, H⟩) (s1 := ⟨f1, s.ds, H⟩) hx hcall hv.st.rel (srAny _) ?_ (fun a2 w2 haft => quiet (by rw [hki]; simp) (by rw [hki]; simp) _ rfl a2 w2 haft)
        unfold doOp
        simp only [hse, hg, St.putO]
        exact st_put hf
      · -- a link of the chain: alike for its place in the text and out of it
        have noraw : ∀ ob, K i ≠ .raw ob := fun ob hh => by rw [hki] at hh; cases hh
        have link : ∀ (l : List (Nat × AObj)) (H1 H2 : AS), (∀ q, q ∈ l → q.1 < ops.size ∧ K q.1 = .raw q.2 ∧ On listed q.1 ∧ UnL ops M K listed q.1 ∧ ¬ UnL ops M K (listed.setIfInBounds i true) q.1) → (l.map (·.1)).Nodup →
            ((∃ g, sem x f o.op = .write g ∧ g (takeIn rk l H) = some (V i, H1)) ∨ (∃ g args, sem x f o.op = .call g args ∧ callV x call g args (takeIn rk l H) = some (V i, H1))) →
            H1.next = H2.next → (∀ k, H1.heap.get k = H2.heap.get k) → Good ops HH K pr HA (listed.setIfInBounds i true) H2 → o.wpIn (FF r) n x.P a1 w1 (wpAnyIn (FF r) n x.P md ops Q fuel (listed.setIfInBounds i true)) Q := by
          intro l H1 H2 hl hnd hch hnx hgt hgood
          obtain ⟨t1, _, _⟩ := hv.take hrel hc (l := l) (fun q hq => let ⟨a, b, c, d, _⟩ := hl q hq; ⟨a, b, c, d⟩) hnd
          refine doOp_ok (s := ⟨f, s.ds, takeIn rk l H⟩) (s1 := ⟨f1, s.ds, H1⟩) hx hcall t1.rel (srAny _) ?_ (fun a2 w2 haft => ?_)
          · unfold doOp
            rcases hch with ⟨g, hse, hg⟩ | ⟨g, args, hse, hg⟩
            · simp only [hse, hg, St.putW]
              exact st_put hf
            · simp only [hse, hg, St.putW]
              exact st_put hf
          · obtain ⟨e2, h3, h4⟩ := haft
            exact ih _ H2 f1 e2 a2 w2 (hv.next hrel hc ho hd hl hnd hgood noraw (h3.same hnx hgt) ⟨h4.fr, h4.ds⟩ hf) hcnt2
        have hl : ∀ q, q ∈ hangs true (M i) (PD i) → q.1 < ops.size ∧ K q.1 = .raw q.2 ∧ On listed q.1 ∧ Un M K i q.1 ∧ ¬ UnL ops M K (listed.setIfInBounds i true) q.1 := fun q hq => by
          obtain ⟨h1, h2⟩ := hangs_mem.1 hq
          obtain ⟨h3, h4, h5⟩ := (hc.pd_mem i (by omega) q.1 q.2).1 h1
          refine ⟨by omega, h4, hd q.1 h2, h5, fun hu => ?_⟩
          have := hu i hlt hki ((on_set hil).2 (.inl rfl))
          rw [h2] at this; cases this
        have hn : ((hangs true (M i) (PD i)).map (·.1)).Nodup := (hc.pd_nodup i (by omega)).sublist ((hangs_sub _).map _)
        rcases hv.good with ⟨p, hp1, hp2, hp3, rfl⟩ | ⟨u, t, hp1, hp3, rfl⟩
        · have hpi : p ≤ i := by
            rcases Nat.lt_or_ge i p with h | h
            · exact absurd ((hp3 i hlt hki).2 h) hni
            · exact h
          by_cases hall : ∀ c, c < i → K c = .chain → On listed c
          · have hHH : HH i = HH p := hc.const hpi (by omega) fun c hpc hci hkc => by
              have := (hp3 c (by omega) hkc).1 (hall c hci hkc); omega
            refine link _ _ (HH (i + 1)) (fun q hq => ?_) hn ?_ rfl (fun _ => rfl) (.inl ⟨i + 1, by omega, .inr ⟨i, rfl, hlt, hki⟩, fun c hcc hkc => ?_, rfl⟩)
            · obtain ⟨h1, h2, h3, h4, h5⟩ := hl q hq
              exact ⟨h1, h2, h3, fun c hcc hkc hon => h4 c (by have := (hp3 c hcc hkc).1 hon; omega) hkc, h5⟩
            · rw [hHH, hsem] at hch; exact hch
            · rw [on_set hil]
              constructor
              · rintro (rfl | hon)
                · omega
                · have := (hp3 c hcc hkc).1 hon; omega
              · intro hci
                by_cases hce : c = i
                · exact .inl hce
                · exact .inr (hall c (by omega) hkc)
          · have hall : ∃ c, c < i ∧ K c = .chain ∧ ¬ On listed c := by
              apply Classical.byContradiction
              intro hno
              exact hall fun c hci hkc => Classical.byContradiction fun hon => hno ⟨c, hci, hkc, hon⟩
            obtain ⟨u, hui, hku, hnu⟩ := hall
            have hpr : pr = some (u, i) := by
              rcases hc.ord u i hui hlt hku hki with h | h
              · exact absurd (hd u h) hnu
              · exact h
            obtain ⟨_, _, _, _, hbet, hhu, hht, _, ou, ot, gu, gt, HZ, hou, hot, _, _, hsu, hst, hgt, hgu, _, _⟩ := hc.pair u i hpr
            rw [ho] at hot; cases hot
            have others : ∀ c, c < i → K c = .chain → c ≠ u → On listed c := fun c hci hkc hcu => by
              rcases hc.ord c i hci hlt hkc hki with h | h
              · exact hd c h
              · rw [hpr] at h; cases h; exact absurd rfl hcu
            have hpu : p ≤ u := by
              rcases Nat.lt_or_ge u p with h | h
              · exact absurd ((hp3 u (by omega) hku).2 h) hnu
              · exact h
            have hHH : HH u = HH p := hc.const hpu (by omega) fun c hpc hcu hkc => by
              have := (hp3 c (by omega) hkc).1 (others c (by omega) hkc (by omega)); omega
            refine link [] HA HA (fun q hq => by simp at hq) List.nodup_nil (.inl ⟨gt, by rw [← hsem]; exact hst, ?_⟩) rfl (fun _ => rfl) (.inr ⟨u, i, hpr, fun c hcc hkc => ?_, rfl⟩)
            · show gt (HH p) = _
              rw [← hHH]; exact hgt
            · rw [on_set hil]
              constructor
              · rintro (rfl | hon)
                · exact .inr rfl
                · have := (hp3 c hcc hkc).1 hon; exact .inl (by omega)
              · rintro (hcu | rfl)
                · exact .inr (others c (by omega) hkc (by omega))
                · exact .inl rfl
        · obtain ⟨hut, htl, hku, hkt, hbet, hhu, hht, _, ou, ot, gu, gt, HZ, hou, hot, _, _, hsu, hst, hgt, hgu, hz1, hz2⟩ := hc.pair u t hp1
          have hiu : i = u := by
            apply Classical.byContradiction
            intro hne
            have hit : i ≠ t := fun hh => hni (by rw [hh]; exact (hp3 t htl hkt).2 (.inr rfl))
            have hgi : ¬ i < u := fun hh => hni ((hp3 i hlt hki).2 (.inl hh))
            rcases hc.ord u i (by omega) hlt hku hki with h | h
            · rcases (hp3 u (by omega) hku).1 (hd u h) with h | h <;> omega
            · rw [hp1] at h; cases h; exact hit rfl
          subst hiu
          rw [ho] at hou; cases hou
          refine link [] HZ (HH (t + 1)) (fun q hq => by simp at hq) List.nodup_nil (.inl ⟨gu, by rw [← hsem]; exact hsu, hgu⟩) hz1 hz2 (.inl ⟨t + 1, by omega, .inr ⟨t, rfl, htl, hkt⟩, fun c hcc hkc => ?_, rfl⟩)
          rw [on_set hil]
          constructor
          · rintro (rfl | hon)
            · omega
            · rcases (hp3 c hcc hkc).1 hon with h | h <;> omega
          · intro hct
            by_cases hce : c = i
            · exact .inl hce
            · refine .inr ((hp3 c hcc hkc).2 ?_)
              by_cases hct2 : c = t
              · exact .inr hct2
              · rcases Nat.lt_or_ge c i with h | h
                · exact .inl h
                · exact absurd hkc (hbet c (by omega) (by omega))
theorem draw_ok (hx : CxOK x) (hcall : CallOK x call) (r : Option Nat) (n N : Nat) : DrawOK x call r n N := by
  intro id ops s s1 e a w Q hrel hs h hQ
  obtain ⟨rk, wd, M, F, PD, HH, V, K, pr, HA, hc, rfl⟩ := cert_of h
  have off : ∀ j, ¬ On (Array.replicate ops.size false) j := fun j hon => by
    unfold On at hon
    by_cases hj : j < ops.size
    · simp [Array.getD, hj] at hon
    · simp [Array.getD, hj] at hon
  have st0 : Stp x e s.S w e (HH 0) { w with drawn := w.drawn + 1 } := by
    rw [hc.hh0]
    refine ⟨⟨fun i hi => hrel.fresh i ?_, hrel.low, ?_, hrel.obj, hrel.inj, hrel.size, hrel.bnd, hrel.glob, hrel.gval, hrel.gsz⟩, .refl e, rfl, rfl, rfl, Nat.le_refl _, fun _ _ _ => rfl, fun _ _ hl => hl, ?_, fun _ _ hn => hn⟩
    · have hi : s.S.next + wd ≤ i := hi
      omega
    · have := hrel.next; show x.G ≤ s.S.next + wd; omega
    · show s.S.next ≤ s.S.next + wd; omega
  have inv0 : Inv x N ops s rk wd M HH V K pr HA e w (Array.replicate ops.size false) (HH 0) s.f e a { w with drawn := w.drawn + 1 } := by
    refine ⟨by simp, st0, ⟨hs.fr, hs.ds⟩, fun j o t hon => absurd hon (off j), fun _ _ => rfl, .inl ⟨0, Nat.zero_le _, .inl rfl, fun c _ _ => ⟨fun hon => absurd hon (off c), fun hlt => by omega⟩, rfl⟩, fun i _ hon => absurd hon (off i),
      fun i ob _ _ _ => hrel.fresh _ (hc.hrk i), fun i ob _ _ hon => absurd hon (off i), fun i j oi oj b _ _ _ _ hon => absurd hon (off i), ?_⟩
    rw [hc.hh0]; exact Nat.le_refl _
  have fin : ∀ listed H f e1 a1 w1, Inv x N ops s rk wd M HH V K pr HA e w listed H f e1 a1 w1 → (∀ i, i < ops.size → On listed i) → Q .normal a1 w1 := by
    intro listed H f e1 a1 w1 hv hon
    obtain ⟨p, hp1, _, hp3, rfl⟩ : ∃ p, p ≤ ops.size ∧ (p = 0 ∨ ∃ c, p = c + 1 ∧ c < ops.size ∧ K c = .chain) ∧ (∀ c, c < ops.size → K c = .chain → (On listed c ↔ c < p)) ∧ H = HH p := by
      rcases hv.good with h | ⟨u, t, h1, h2, _⟩
      · exact h
      · obtain ⟨hut, htl, hku, _⟩ := hc.pair u t h1
        rcases (h2 u (by omega) hku).1 (hon u (by omega)) with h | h <;> omega
    have hHH : HH ops.size = HH p := hc.const hp1 (Nat.le_refl _) fun c hpc hcs hkc => by
      have := (hp3 c hcs hkc).1 (hon c hcs); omega
    obtain ⟨t1, _, _⟩ := hv.take hrel hc (l := PD ops.size) (fun q hq => by
      obtain ⟨h1, h2, h3⟩ := (hc.pd_mem ops.size (Nat.le_refl _) q.1 q.2).1 hq
      exact ⟨h1, h2, hon _ h1, fun c hcc hkc _ => h3 c hcc hkc⟩) (hc.pd_nodup ops.size (Nat.le_refl _))
    refine hQ a1 w1 ⟨e1, by rw [hHH]; exact t1, ⟨⟨hv.sr.fr.size, fun i => ?_⟩, hv.sr.ds⟩⟩
    have hget : (F ops.size).get i = f.get i := by
      by_cases hex : ∃ (j : Nat) (o : Oper), ops[j]? = some o ∧ o.dst = some i
      · obtain ⟨j, o, hj, hd⟩ := hex
        rw [hc.fset ops.size (Nat.le_refl _) j o i (opLt hj) hj hd, hv.fset j o i (hon j (opLt hj)) hj hd]
      · rw [hc.fold ops.size (Nat.le_refl _) i fun j o _ hj hd => hex ⟨j, o, hj, hd⟩, hv.fold i fun j o _ hj hd => hex ⟨j, o, hj, hd⟩]
    have : tmp0 (F ops.size) i = tmp0 f i := by simp only [tmp0, hget]
    show VR e1 (tmp0 (F ops.size) i) _
    rw [this]; exact hv.sr.fr.val i
  have hcount : (Array.replicate ops.size false).toList.count false ≤ ops.size := by simp
  refine wpIn_region_draw fun t => ?_
  unfold Region.schedule
  split
  · exact wpAnyIn_sound _ _ _ _ _ (any_ok hx hcall hrel hc fin ops.size _ (HH 0) s.f e a _ inv0 hcount)
  · split
    · exact wpAnyIn_sound _ _ _ _ _ (any_ok hx hcall hrel hc fin ops.size _ (HH 0) s.f e a _ inv0 hcount)
    · exact wpAnyIn_sound _ _ _ _ _ (any_ok hx hcall hrel hc fin ops.size _ (HH 0) s.f e a _ inv0 hcount)
end Go.X
