import Derived.Test.YtaknejhfphalaaaGreatDoorXMulti3
/-
  Part thirty-three: the entries of a hook.
-/
namespace Go.X
open Go
variable {x : Cx}

/-! an entry -/
noncomputable def entryS (G : Nat) (E : Entry) : AS := { heap := putObjs (E.os.map some) G .leaf, next := G + E.os.length }
structure EntryOK (x : Cx) (E : Entry) : Prop where
  gr : ∀ v, v ∈ E.args → ∃ d, ground d v = true
  call : ∀ e w args' n, Rel x e { heap := .leaf, next := x.G } w → All2 (VR e) E.args args' → CallsIn (FF none) n x.P E.g args'.toArray w (RetOK x e { heap := .leaf, next := x.G } w E.v (entryS x.G E))
theorem entry_ok {E : Entry} {call : CallF} (hcall : CallOK x call) {ro : List Nat} (h : entryFits x.G E ro (call (.func E.g) E.args { heap := .leaf, next := x.G }) = true) (hg : E.args.all (ground 4) = true) : EntryOK x E := by
  refine ⟨fun v hv => ⟨4, List.all_eq_true.1 hg v hv⟩, fun e w args' n hrel ha => ?_⟩
  unfold entryFits at h
  split at h
  · cases h
  · rename_i v S hc
    split at h
    · rename_i hu
      split at h
      · rename_i hv
        have hu := unlike_ok hu
        have hv := rnV_ok _ _ _ hv
        obtain ⟨hlen, hos⟩ := rnOs_ok _ _ h
        refine (hcall.func E.g E.args _ v S hc e w args' n hrel ha).mono fun en w1 hen => ?_
        cases en with
        | panicked _ => exact hen.elim
        | outgrown => exact hen.elim
        | returned v' =>
          obtain ⟨e1, h1, h2⟩ := hen
          obtain ⟨e', h3, h4⟩ := Stp.lift (os := E.os.map some) (r := fun i => (ro[i - x.G]?).getD 0) (rr := fun i j => ofRow x.G ro i = some j) hrel rfl h1
            (fun t o ht => by
              rw [List.getElem?_map] at ht
              cases hq : E.os[t]? with
              | none => rw [hq] at ht; simp at ht
              | some q =>
                rw [hq] at ht
                simp at ht
                subst ht
                obtain ⟨j, p, k1, k2, k3⟩ := hos t q hq
                refine ⟨p, ?_, k3⟩
                show PT.get S.heap ((ro[x.G + t - x.G]?).getD 0) = some p
                rw [show x.G + t - x.G = t by omega, k1]; exact k2)
            (fun t t' ht ht' he => by
              have e1 : x.G + t - x.G = t := by omega
              have e2 : x.G + t' - x.G = t' := by omega
              have he : (ro[x.G + t - x.G]?).getD 0 = (ro[x.G + t' - x.G]?).getD 0 := he
              rw [e1, e2] at he
              have l1 : t < ro.length := by rw [← hlen]; simpa using ht
              have l2 : t' < ro.length := by rw [← hlen]; simpa using ht'
              rw [List.getElem?_eq_getElem l1, List.getElem?_eq_getElem l2] at he
              simp only [Option.getD_some] at he
              exact (List.getElem_inj hu).1 he)
            (fun i j hij => by
              unfold ofRow at hij
              split at hij
              · rename_i hlt; cases hij; exact .inl ⟨blt_iff.1 hlt, rfl⟩
              · rename_i hlt
                have hge : x.G ≤ i := by
                  rcases Nat.lt_or_ge i x.G with h | h
                  · rw [blt_iff.2 h] at hlt; cases hlt
                  · exact h
                rw [nth_eq] at hij
                have hij' : ro[i - x.G]? = some j := hij
                refine .inr ⟨hge, ?_, .inl ?_⟩
                · show j = (ro[i - x.G]?).getD 0
                  rw [hij']; rfl
                · have := (List.getElem?_eq_some_iff.1 hij').1
                  show i < x.G + (E.os.map some).length
                  simp; omega)
          refine ⟨e', ?_, hv.vr h4 v' h2⟩
          have hl : (E.os.map some).length = E.os.length := by simp
          rw [hl] at h3
          exact h3
      · cases h
    · cases h

/-! moved -/
def Sh (G d i j : Nat) : Prop := (j < G ∧ i = j) ∨ (G ≤ j ∧ i = j + d)
theorem shI_ok {G d i : Nat} : Sh G d (shI G d i) i := by
  unfold shI
  split
  · rename_i h; exact .inl ⟨blt_iff.1 h, rfl⟩
  · rename_i h
    refine .inr ⟨?_, rfl⟩
    rcases Nat.lt_or_ge i G with h' | h'
    · rw [blt_iff.2 h'] at h; cases h
    · exact h'
theorem orUnk_ok {rr : Nat → Nat → Prop} {v : Value} : RV rr (orUnk v) v := by
  unfold orUnk
  split
  · rename_i h; obtain ⟨d, hd⟩ := ground6_ok h; exact .ground _ d hd
  · exact .any _
theorem mapL_all2 {R : Value → Value → Prop} {p : Value → Value} (hp : ∀ v, R (p v) v) : ∀ (l : List Value), All2 R (mapL p l) l
  | [] => trivial
  | a :: l => ⟨hp a, mapL_all2 hp l⟩
theorem mapA_at {R : Value → Value → Prop} {p : Value → Value} (hp : ∀ v, R (p v) v) (a : Array Value) : (mapA p a).size = a.size ∧ ∀ (i : Nat) v v', (mapA p a)[i]? = some v → a[i]? = some v' → R v v' :=
  all2_at (by unfold mapA; exact mapL_all2 hp a.toList)
theorem shStep_ok {G d : Nat} {rec : Value → Value} (hrec : ∀ v, RV (Sh G d) (rec v) v) (v : Value) : RV (Sh G d) (shStep G d rec v) v := by
  unfold shStep
  split
  · rename_i a
    split
    · exact .any _
    · rename_i hs
      obtain ⟨i, o, sp⟩ := a
      simp only at hs
      subst hs
      exact .ptr _ _ _ shI_ok
  · rename_i a n k
    split
    · exact .any _
    · rename_i hs
      obtain ⟨i, o, sp⟩ := a
      simp only at hs
      subst hs
      exact .slice _ _ _ _ _ shI_ok
  · exact .map _ _ shI_ok
  · split
    · rename_i a c _ f
      obtain ⟨b1, b2⟩ := mapA_at hrec a
      obtain ⟨c1, c2⟩ := mapA_at hrec c
      exact .func _ _ _ _ _ b1 b2 c1 c2
    · exact .any _
  · exact .iface _ _ _ (hrec _)
  · rename_i c
    obtain ⟨c1, c2⟩ := mapA_at hrec c
    exact .agg _ _ c1 c2
  · rename_i c
    obtain ⟨c1, c2⟩ := mapA_at hrec c
    exact .tuple _ _ c1 c2
  · exact orUnk_ok
theorem shV_ok {G d : Nat} : ∀ (n : Nat) (v : Value), RV (Sh G d) (shV G d n v) v
  | 0, _ => orUnk_ok
  | n + 1, v => shStep_ok (fun u => shV_ok n u) v
theorem shEs_ok {R : Value → Value → Prop} {p : Value → Value} (hp : ∀ v, R (p v) v) : ∀ (l : List MapEntry), All2 (fun m m' : MapEntry => m'.key = m.key ∧ m'.born = m.born ∧ R m.val m'.val) (shEs p l) l
  | [] => trivial
  | m :: l => ⟨⟨rfl, rfl, hp m.val⟩, shEs_ok hp l⟩
theorem shO_ok {G d : Nat} {o p : AObj} (h : shO G d p = some o) : RO (Sh G d) o p := by
  unfold shO at h
  split at h
  · cases h; exact .cells _ _ _ _ (mapL_all2 (shV_ok 8) _)
  · cases h; exact .map _ _ _ (shEs_ok (shV_ok 8) _)
  · cases h
theorem shOs_get {G d : Nat} : ∀ (l : List AObj) (t : Nat), (shOs G d l)[t]? = (l[t]?).map (shO G d)
  | [], t => by simp [shOs]
  | o :: l, 0 => rfl
  | o :: l, t + 1 => by
    have : shOs G d (o :: l) = shO G d o :: shOs G d l := rfl
    rw [this]; simp [shOs_get l t]
theorem shOs_length {G d : Nat} : ∀ (l : List AObj), (shOs G d l).length = l.length
  | [] => rfl
  | o :: l => by
    have : shOs G d (o :: l) = shO G d o :: shOs G d l := rfl
    rw [this]; simp [shOs_length l]
theorem All2.groundV {e e' : Env} : ∀ {l m : List Value}, (∀ v, v ∈ l → ∃ d, Go.X.ground d v = true) → All2 (VR e) l m → All2 (VR e') l m
  | [], [], _, _ => trivial
  | v :: l, u :: m, hg, h => by
    obtain ⟨d, hd⟩ := hg v (by simp)
    have := ground_eq h.1 d hd
    subst this
    exact ⟨.ground _ d hd, All2.groundV (fun w hw => hg w (by simp [hw])) h.2⟩
  | [], _ :: _, _, h => h.elim
  | _ :: _, [], _, h => h.elim
theorem entryR_ok {E : Entry} (hE : EntryOK x E) {e : Env} {S : AS} {w : World} {args' : List Value} {n : Nat} (hrel : Rel x e S w) (ha : All2 (VR e) E.args args') :
    CallsIn (FF none) n x.P E.g args'.toArray w (RetOK x e S w (entryR x.G E S).1 (entryR x.G E S).2) := by
  refine (hE.call _ w args' n hrel.empty (All2.groundV hE.gr ha)).mono fun en w1 hen => ?_
  cases en with
  | panicked _ => exact hen.elim
  | outgrown => exact hen.elim
  | returned v' =>
    obtain ⟨e1, h1, h2⟩ := hen
    have hG := hrel.next
    obtain ⟨e', h3, h4⟩ := Stp.lift (e0 := { blk := fun i => if i < x.G then some (i, 0) else none, sz := e.sz }) (S1 := entryS x.G E) (os := shOs x.G (S.next - x.G) E.os) (r := fun i => x.G + (i - S.next)) (rr := Sh x.G (S.next - x.G)) hrel rfl h1
      (fun t o ht => by
        rw [shOs_get] at ht
        cases hq : E.os[t]? with
        | none => rw [hq] at ht; simp at ht
        | some q =>
          rw [hq] at ht
          simp at ht
          refine ⟨q, ?_, shO_ok ht⟩
          have hlt := (List.getElem?_eq_some_iff.1 hq).1
          show (putObjs (E.os.map some) x.G .leaf).get (x.G + (S.next + t - S.next)) = some q
          rw [putObjs_get, if_pos (by simp; omega), show x.G + (S.next + t - S.next) - x.G = t by omega, List.getElem?_map, hq]; rfl)
      (fun t t' _ _ he => by
        have he : x.G + (S.next + t - S.next) = x.G + (S.next + t' - S.next) := he
        omega)
      (fun i j hij => by
        rcases hij with ⟨h1, rfl⟩ | ⟨h1, rfl⟩
        · exact .inl ⟨h1, rfl⟩
        · refine .inr ⟨by omega, ?_, ?_⟩
          · show j = x.G + (j + (S.next - x.G) - S.next)
            omega
          · rw [shOs_length]
            rcases Nat.lt_or_ge j (x.G + E.os.length) with h | h
            · exact .inl (by omega)
            · exact .inr h)
    refine ⟨e', ?_, (shV_ok 8 E.v).vr h4 v' h2⟩
    rw [shOs_length] at h3
    exact h3
/-- A HOOK OF ENTRIES THAT ARE PROVED. -/
theorem hookF_ok : ∀ {l : List Entry}, (∀ E, E ∈ l → EntryOK x E) → HookOK x (hookF x.G l)
  | [], _ => ⟨fun g args S v S1 h => by cases h⟩
  | E :: l, hl => by
    refine ⟨fun g args S v S1 h => ?_⟩
    have ih := hookF_ok (l := l) (fun F hF => hl F (by simp [hF]))
    change (match Nat.beq E.g g with
      | true => match allEq (veq 4) E.args args with
        | true => match Nat.ble x.G S.next with
          | true => some (entryR x.G E S)
          | false => hookOf x.G l g args S
        | false => hookOf x.G l g args S
      | false => hookOf x.G l g args S) = some (v, S1) at h
    split at h
    · rename_i h1
      split at h
      · rename_i h2
        split at h
        · have hargs := allEq_ok (fun v u h => veq_ok 4 v u h) _ _ h2
          have hg := beq_iff.1 h1
          subst hg; subst hargs
          have e1 : v = (entryR x.G E S).1 := by rw [Option.some.inj h]
          have e2 : S1 = (entryR x.G E S).2 := by rw [Option.some.inj h]
          rw [e1, e2]
          intro e w args' n hrel ha
          exact entryR_ok (hl E (by simp)) hrel ha
        · exact ih.func g args S v S1 h
      · exact ih.func g args S v S1 h
    · exact ih.func g args S v S1 h
theorem entry_sound (hx : CxOK x) (hq : QuietOK x) {hs : List Entry} (hh : ∀ E, E ∈ hs → EntryOK x E) {k : Nat} {E : Entry} {ro : List Nat} (h : entryOk x hs k E ro = true) (hg : E.args.all (ground 4) = true) : EntryOK x E :=
  entry_ok (xcall_sound hx hq (hookF_ok hh) k) h hg
end Go.X
