import Derived.Test.YtaknejhfphalaaaGreatDoorProg
import Derived.Test.YtaknejhfphalaaaGreatDoorXQuiet
import Derived.Test.YtaknejhfphalaaaGreatDoorXHook3
/-
  The program of this seat, seen by the executor.
-/
namespace Go.X
open Go Go.Proofs
set_option maxRecDepth 100000
noncomputable def asciiSp : List Value := [0,0,0,0,0,0,0,0,0,1,1,1,1,1,0,0,0,0,0,0,0,0,0,0,0,0,0,0,0,0,0,0,1].map (fun (n : Nat) => Value.int .u8 n) ++ List.replicate 223 (Value.int .u8 0)
noncomputable def pow10 : List Value := [1, 10, 100, 1000, 10000, 100000, 1000000, 10000000, 100000000, 1000000000, 10000000000, 100000000000, 1000000000000, 10000000000000, 100000000000000, 1000000000000000, 10000000000000000, 100000000000000000, 1000000000000000000, 10000000000000000000].map (fun (n : Nat) => Value.int .u64 n)
noncomputable def oneOf (l : List Nat) (g : Nat) : Bool := List.rec (motive := fun _ => Bool) false (fun a _ ih => match Nat.beq a g with | true => true | false => ih) l
noncomputable def cx : Cx := { P := Tryz.prog, G := 15, gt := fun g => match g with | 1 => some asciiSp | 9 => some pow10 | _ => none, quiet := fun g => Nat.beq g 34, multi := oneOf [44, 75, 390], spread := oneOf [80, 154, 82] }

theorem names_ok : Tryz.prog.funcs.all (fun fn => fn.name != "runtime.NumGoroutine") = true := by kernel_rfl
theorem who_esc : (Tryz.prog.funcs.toList.zipIdx.all fun p => p.1.name != "internal/abi.NoEscape" || p.2 == 332) = true := by kernel_rfl
theorem who_mnz : (Tryz.prog.funcs.toList.zipIdx.all fun p => p.1.name != "internal/bytealg.MakeNoZero" || p.2 == 409) = true := by kernel_rfl
theorem who_clone : (Tryz.prog.funcs.toList.zipIdx.all fun p => p.1.name != "maps.clone" || p.2 == 58) = true := by kernel_rfl
theorem who_add : (Tryz.prog.funcs.toList.zipIdx.all fun p => p.1.name != "math/bits.Add64" || p.2 == 489) = true := by kernel_rfl
theorem who_at {nm : String} {k : Nat} (h : (Tryz.prog.funcs.toList.zipIdx.all fun p => p.1.name != nm || p.2 == k) = true) {g : Nat} {fn : Func} (hf : Tryz.prog.funcs[g]? = some fn) (hn : fn.name = nm) : g = k := by
  have hm : (fn, g) ∈ Tryz.prog.funcs.toList.zipIdx := by
    rw [List.mem_zipIdx_iff_getElem?, Array.getElem?_toList]; exact hf
  have := List.all_eq_true.1 h _ hm
  simp only [hn, bne_self_eq_false, Bool.false_or, beq_iff_eq] at this
  exact this
theorem cx_ok : CxOK cx := by
  refine ⟨fun g fn hf hn => ?_, fun g fn hf _ hn => ?_, fun g fn hf _ hn => ?_, fun g fn hf _ hn => ?_, fun g fn hf _ hn => ?_⟩
  · have hm : fn ∈ Tryz.prog.funcs := Array.mem_of_getElem? hf
    have := (Array.all_eq_true_iff_forall_mem.1 names_ok) fn hm
    rw [hn] at this
    simp at this
  · have hg := who_at who_esc hf hn
    subst hg
    have hfn : fn = Tryz.f332 := by
      have : Tryz.prog.funcs[332]? = some Tryz.f332 := Tryz.func332
      exact Option.some.inj (hf.symm.trans this)
    subst hfn
    exact ⟨by kernel_rfl, by kernel_rfl⟩
  · have hg := who_at who_mnz hf hn
    subst hg
    have hfn : fn = Tryz.f409 := by
      have : Tryz.prog.funcs[409]? = some Tryz.f409 := Tryz.func409
      exact Option.some.inj (hf.symm.trans this)
    subst hfn
    exact ⟨by kernel_rfl, by kernel_rfl⟩
  · have hg := who_at who_clone hf hn
    subst hg
    have hfn : fn = Tryz.f58 := by
      have : Tryz.prog.funcs[58]? = some Tryz.f58 := Tryz.func58
      exact Option.some.inj (hf.symm.trans this)
    subst hfn
    exact ⟨by kernel_rfl, by kernel_rfl⟩
  · have hg := who_at who_add hf hn
    subst hg
    have hfn : fn = Tryz.f489 := by
      have : Tryz.prog.funcs[489]? = some Tryz.f489 := Tryz.func489
      exact Option.some.inj (hf.symm.trans this)
    subst hfn
    exact ⟨by kernel_rfl, by kernel_rfl⟩
end Go.X
namespace Go.X
open Go Go.Proofs
set_option maxRecDepth 100000
noncomputable def ops34 : Array Oper := match Tryz.f34.body with
  | some (.seq (.region _ ops _) _) => ops
  | _ => #[]
noncomputable def rest34 : Code := match Tryz.f34.body with
  | some (.seq _ c) => c
  | _ => .skip
theorem body34 : Tryz.f34.body = some (.seq (.region 0 ops34 false) rest34) := rfl
noncomputable def o34 : Oper := match ops34.toList with
  | o :: _ => o
  | [] => default
def noCall : CallF := fun _ _ _ => none
noncomputable def f34F : Fr := ((((PT.leaf.set 0 (some unk)).set 1 (some unk)).set 2 (some unk)).set 3 (some unk)).set 6 (some .nilIface)
noncomputable def s34 : St := { f := f34F, ds := [], S := { heap := .leaf, next := 15 } }
noncomputable def isN (r : Option (XE × St)) : Bool :=
  match r with
  | some (.normal, s) => s.ds.isEmpty
  | _ => false
noncomputable def run34 (r : Option St) : Bool :=
  match r with
  | some s1 => s1.ds.isEmpty && isN (xcode cx noCall false 14 20 rest34 s1)
  | none => false
theorem run34_ok : run34 (runOps cx noCall false 14 ops34.toList ops34.toList.tail s34) = true := by kernel_rfl
theorem plain34 : (ops34.toList.tail.all fun o => match o.op with | .defer _ => false | .call c => (match c.callee with | .value _ => false | _ => true) | _ => true) = true := by kernel_rfl
theorem size34 : ops34.size = 8 := by kernel_rfl
theorem get_f34 (i : Nat) (h : i ≠ 6) (h4 : 4 ≤ i) : f34F.get i = none := by
  unfold f34F
  rw [PT.get_set_other _ _ _ _ h, PT.get_set_other _ _ _ _ (by omega), PT.get_set_other _ _ _ _ (by omega), PT.get_set_other _ _ _ _ (by omega), PT.get_set_other _ _ _ _ (by omega)]
  rfl
theorem quiet_ok : QuietOK cx := by
  intro g hg args e S w n hrel ha
  have hg : g = 34 := beq_iff.1 hg
  subst hg
  refine ⟨⟨Tryz.f34, Tryz.func34, rfl⟩, ?_⟩
  have hrel0 := hrel.empty
  refine callsDIn_of_wpSIn Tryz.func34 body34 trivial fun c₀ cs hu => ?_
  have hnt : Tryz.f34.ntmps = 14 := rfl
  rw [hnt]
  have hsz : (args ++ Array.replicate (14 - args.size) undef).size = 14 := by simp; omega
  have hund : ∀ i, 4 ≤ i → (args ++ Array.replicate (14 - args.size) undef).getD i undef = undef := fun i hi => by
    rw [Array.getD_eq_getD_getElem?, Array.getElem?_append_right (by omega)]
    by_cases h : i - args.size < 14 - args.size
    · simp [h]
    · rw [Array.getElem?_eq_none (by simp; omega)]; rfl
  generalize hT : args ++ Array.replicate (14 - args.size) undef = t at hsz hund
  apply wpSIn_seq
  apply wpSIn_region
  have hr : List.range ops34.size = [0, 1, 2, 3, 4, 5, 6, 7] := by rw [size34]; rfl
  rw [hr]
  unfold wpOpsSIn
  have h0 : ops34[0]? = some o34 := rfl
  rw [h0]
  refine ⟨fun _ _ => trivial, ?_⟩
  have hw : Region.wanted o34 (yielded ops34 (Act.tmps { tmps := t, defers := [] })) = true := rfl
  rw [if_pos hw]
  have hex : (execOp (Act.eval { tmps := t, defers := [] }) o34).run cx.P w = .ok .recover w := rfl
  rw [hex]
  simp only [recoverD, hu]
  have hsr : SR cx { blk := fun i => if i < cx.G then some (i, 0) else none, sz := e.sz } 14 s34 (Act.put { tmps := t, defers := [] } o34.dst .nilIface) := by
    have hd : o34.dst = some 6 := rfl
    rw [hd]
    refine ⟨⟨by simp [Act.put, hsz], fun i => ?_⟩, trivial⟩
    show VR _ (tmp0 f34F i) ((t.setIfInBounds 6 .nilIface).getD i undef)
    by_cases h6 : i = 6
    · subst h6
      have h1 : tmp0 f34F 6 = .nilIface := by simp only [tmp0, f34F, PT.get_set_same]
      have h2 : (t.setIfInBounds 6 Value.nilIface).getD 6 undef = .nilIface := by simp [Array.getD, hsz]
      rw [h1, h2]; exact .ground _ 0 rfl
    · have h2 : (t.setIfInBounds 6 Value.nilIface).getD i undef = t.getD i undef := by
        simp only [Array.getD_eq_getD_getElem?, Array.getElem?_setIfInBounds_ne (Ne.symm h6)]
      rw [h2]
      by_cases h4 : 4 ≤ i
      · have h1 : tmp0 f34F i = undef := by simp only [tmp0, get_f34 i h6 h4]
        rw [h1, hund i h4]; exact .undef
      · have h1 : tmp0 f34F i = unk := by
          rcases (show i = 0 ∨ i = 1 ∨ i = 2 ∨ i = 3 by omega) with rfl | rfl | rfl | rfl <;> rfl
        rw [h1]; exact .any _
  have hrun := run34_ok
  unfold run34 at hrun
  split at hrun
  · rename_i s1 hs1
    simp only [Bool.and_eq_true] at hrun
    obtain ⟨hds1, hrun⟩ := hrun
    have hpl := List.all_eq_true.1 plain34
    refine opsS_ok (x := cx) (call := noCall) (ops := ops34) (ol := ops34.toList.tail) (s := s34) (s1 := s1) (N := 14) (fun k => ?_) (fun o ho c hc => ?_) (fun o ho c y hc hy => ?_) hrel0 hsr hs1 fun a1 w1 haft => ?_
    · have : (ops34.toList.tail)[k]? = ops34[k + 1]? := by rw [← Array.getElem?_toList, List.getElem?_tail]
      rw [this]
      rcases Nat.lt_or_ge k 7 with h | h
      · rcases (show k = 0 ∨ k = 1 ∨ k = 2 ∨ k = 3 ∨ k = 4 ∨ k = 5 ∨ k = 6 by omega) with rfl | rfl | rfl | rfl | rfl | rfl | rfl <;> rfl
      · rw [Array.getElem?_eq_none (by rw [size34]; omega), List.getElem?_eq_none (by simp; omega)]; rfl
    · have := hpl o ho
      rw [hc] at this; cases this
    · have := hpl o ho
      rw [hc] at this
      simp only [hy] at this
      cases this
    · obtain ⟨e1, h1, h2⟩ := haft
      unfold isN at hrun
      split at hrun
      · rename_i s2 hs2
        refine wpSIn_of_wpIn rfl ?_
        refine (xcode_ok cx_ok (x := cx) (r := none) (n := n) (noCall_ok (x := cx)) (draw_ok cx_ok noCall_ok none n 14) (rangeF_ok noCall_ok cx_ok) 20).1 rest34 .normal s1 s2 e1 a1 w1 _ h1.rel h2 hs2 fun a2 w2 haft2 => ?_
        obtain ⟨e2, h3, h4⟩ := haft2
        have hds : a2.defers = [] := by
          have := h4.ds
          have h5 : s2.ds = [] := by simpa using hrun
          rw [h5] at this
          cases ha2 : a2.defers with
          | nil => rfl
          | cons _ _ => rw [ha2] at this; exact this.elim
        have hres : Tryz.f34.results.toList = [] := rfl
        obtain ⟨v', h7, _⟩ := results_ok (fn := Tryz.f34) (vs := []) h3.rel h4.fr (by rw [hres]; rfl)
        refine ⟨hds, .returning, ?_, v', h7, ⟨_, rfl⟩, rfl, grown_of (h1.trans h3)⟩
        cases c₀; simp_all
      · cases hrun
  · cases hrun
end Go.X
