import Derived.Test.YtofffmieimggmaaGreatDoorXSeat
namespace Go.X
open Go Go.Proofs
set_option maxRecDepth 100000
noncomputable def ops37 : Array Oper := match Tryz.f37.body with
  | some (.seq (.region _ ops _) _) => ops
  | _ => #[]
noncomputable def rest37 : Code := match Tryz.f37.body with
  | some (.seq _ c) => c
  | _ => .skip
theorem body37 : Tryz.f37.body = some (.seq (.region 0 ops37 false) rest37) := rfl
noncomputable def o37 : Oper := match ops37.toList with
  | o :: _ => o
  | [] => default
def noCall : CallF := fun _ _ _ => none
noncomputable def f37F : Fr := ((((PT.leaf.set 0 (some unk)).set 1 (some unk)).set 2 (some unk)).set 3 (some unk)).set 6 (some .nilIface)
noncomputable def s37 : St := { f := f37F, ds := [], S := { heap := .leaf, next := 14 } }
noncomputable def isN (r : Option (XE × St)) : Bool :=
  match r with
  | some (.normal, s) => s.ds.isEmpty
  | _ => false
noncomputable def run37 (r : Option St) : Bool :=
  match r with
  | some s1 => s1.ds.isEmpty && isN (xcode cx noCall false 14 20 rest37 s1)
  | none => false
theorem run37_ok : run37 (runOps cx noCall false 14 ops37.toList ops37.toList.tail s37) = true := by kernel_rfl
theorem plain37 : (ops37.toList.tail.all fun o => match o.op with | .defer _ => false | .call c => (match c.callee with | .value _ => false | _ => true) | _ => true) = true := by kernel_rfl
theorem size37 : ops37.size = 8 := by kernel_rfl
theorem get_f37 (i : Nat) (h : i ≠ 6) (h4 : 4 ≤ i) : f37F.get i = none := by
  unfold f37F
  rw [PT.get_set_other _ _ _ _ h, PT.get_set_other _ _ _ _ (by omega), PT.get_set_other _ _ _ _ (by omega), PT.get_set_other _ _ _ _ (by omega), PT.get_set_other _ _ _ _ (by omega)]
  rfl
theorem quiet_ok : QuietOK cx := by
  intro g hg args e S w n hrel ha
  have hg : g = 37 := beq_iff.1 hg
  subst hg
  refine ⟨⟨Tryz.f37, Tryz.func37, rfl⟩, ?_⟩
  have hrel0 := hrel.empty
  refine callsDIn_of_wpSIn Tryz.func37 body37 trivial fun c₀ cs hu => ?_
  have hnt : Tryz.f37.ntmps = 14 := rfl
  rw [hnt]
  have hsz : (args ++ Array.replicate (14 - args.size) undef).size = 14 := by simp; omega
  have hund : ∀ i, 4 ≤ i → (args ++ Array.replicate (14 - args.size) undef).getD i undef = undef := fun i hi => by
    rw [Array.getD_eq_getD_getElem?, Array.getElem?_append_right (by omega)]
    by_cases h : i - args.size < 14 - args.size
    · simp [h]
    · rw [Array.getElem?_eq_none (by simp; omega)]; rfl
  generalize hT : args ++ Array.replicate (14 - args.size) undef = t at hsz hund
  apply wpSIn_seq
  apply wpSIn_region
  have hr : List.range ops37.size = [0, 1, 2, 3, 4, 5, 6, 7] := by rw [size37]; rfl
  rw [hr]
  unfold wpOpsSIn
  have h0 : ops37[0]? = some o37 := rfl
  rw [h0]
  refine ⟨fun _ _ => trivial, ?_⟩
  have hw : Region.wanted o37 (yielded ops37 (Act.tmps { tmps := t, defers := [] })) = true := rfl
  rw [if_pos hw]
  have hex : (execOp (Act.eval { tmps := t, defers := [] }) o37).run cx.P w = .ok .recover w := rfl
  rw [hex]
  simp only [recoverD, hu]
  have hsr : SR cx { blk := fun i => if i < cx.G then some (i, 0) else none, sz := e.sz } 14 s37 (Act.put { tmps := t, defers := [] } o37.dst .nilIface) := by
    have hd : o37.dst = some 6 := rfl
    rw [hd]
    refine ⟨⟨by simp [Act.put, hsz], fun i => ?_⟩, trivial⟩
    show VR _ (tmp0 f37F i) ((t.setIfInBounds 6 .nilIface).getD i undef)
    by_cases h6 : i = 6
    · subst h6
      have h1 : tmp0 f37F 6 = .nilIface := by simp only [tmp0, f37F, PT.get_set_same]
      have h2 : (t.setIfInBounds 6 Value.nilIface).getD 6 undef = .nilIface := by simp [Array.getD, hsz]
      rw [h1, h2]; exact .ground _ 0 rfl
    · have h2 : (t.setIfInBounds 6 Value.nilIface).getD i undef = t.getD i undef := by
        simp only [Array.getD_eq_getD_getElem?, Array.getElem?_setIfInBounds_ne (Ne.symm h6)]
      rw [h2]
      by_cases h4 : 4 ≤ i
      · have h1 : tmp0 f37F i = undef := by simp only [tmp0, get_f37 i h6 h4]
        rw [h1, hund i h4]; exact .undef
      · have h1 : tmp0 f37F i = unk := by
          rcases (show i = 0 ∨ i = 1 ∨ i = 2 ∨ i = 3 by omega) with rfl | rfl | rfl | rfl <;> rfl
        rw [h1]; exact .any _
  have hrun := run37_ok
  unfold run37 at hrun
  split at hrun
  · rename_i s1 hs1
    simp only [Bool.and_eq_true] at hrun
    obtain ⟨hds1, hrun⟩ := hrun
    have hpl := List.all_eq_true.1 plain37
    refine opsS_ok (x := cx) (call := noCall) (ops := ops37) (ol := ops37.toList.tail) (s := s37) (s1 := s1) (N := 14) (fun k => ?_) (fun o ho c hc => ?_) (fun o ho c y hc hy => ?_) hrel0 hsr hs1 fun a1 w1 haft => ?_
    · have : (ops37.toList.tail)[k]? = ops37[k + 1]? := by rw [← Array.getElem?_toList, List.getElem?_tail]
      rw [this]
      rcases Nat.lt_or_ge k 7 with h | h
      · rcases (show k = 0 ∨ k = 1 ∨ k = 2 ∨ k = 3 ∨ k = 4 ∨ k = 5 ∨ k = 6 by omega) with rfl | rfl | rfl | rfl | rfl | rfl | rfl <;> rfl
      · rw [Array.getElem?_eq_none (by rw [size37]; omega), List.getElem?_eq_none (by simp; omega)]; rfl
    · have := hpl o ho
      rw [hc] at this; cases this
    · have := hpl o ho
      rw [hc] at this
      simp only [hy] at this
      cases this
    · obtain ⟨e1, h1, h2⟩ := haft
      unfold isN at hrun
      split at hrun
      · rename_i s2 hs2
        refine wpSIn_of_wpIn rfl ?_
        refine (xcode_ok cx_ok (x := cx) (r := none) (n := n) (noCall_ok (x := cx)) (draw_ok cx_ok noCall_ok none n 14) (rangeF_ok noCall_ok cx_ok) 20).1 rest37 .normal s1 s2 e1 a1 w1 _ h1.rel h2 hs2 fun a2 w2 haft2 => ?_
        obtain ⟨e2, h3, h4⟩ := haft2
        have hds : a2.defers = [] := by
          have := h4.ds
          have h5 : s2.ds = [] := by simpa using hrun
          rw [h5] at this
          cases ha2 : a2.defers with
          | nil => rfl
          | cons _ _ => rw [ha2] at this; exact this.elim
        have hres : Tryz.f37.results.toList = [] := rfl
        obtain ⟨v', h7, _⟩ := results_ok (fn := Tryz.f37) (vs := []) h3.rel h4.fr (by rw [hres]; rfl)
        refine ⟨hds, .returning, ?_, v', h7, ⟨_, rfl⟩, rfl, grown_of (h1.trans h3)⟩
        cases c₀; simp_all
      · cases hrun
  · cases hrun
end Go.X
