import Derived.Test.YtofffmieimggmaaGreatDoorXLaw
import Derived.Test.YtofffmieimggmaaGreatDoorTie
import Derived.Test.YtofffmieimggmaaGreatDoorCards
import Derived.ProofKit
import Derived.OpenShut
import Derived.LaidMore
import Derived.Lay
import Derived.Lib.LaidU8
import Derived.Carry
import Derived.SevenTiedAt
import Derived.Stop.Joined
/-
  The card of CatalogNil.
-/
namespace Go.Proofs.YtofffmieimggmaaGreatDoor
open Go.ChangeShapes Go.WideShapes Go.ChangeAt Go.RowKit
set_option maxRecDepth 100000

theorem own : ownKnob Tryz.prog.godebug = none := by kernel_rfl
theorem laidOut : laidOutB Tryz.prog = true := by kernel_rfl
def spaceZ : List Int := [0,0,0,0,0,0,0,0,0,1,1,1,1,1,0,0,0,0,0,0,0,0,0,0,0,0,0,0,0,0,0,0,1] ++ List.replicate 223 0
theorem space_eq : Rows.laid_strings_asciiSpace (H := Unit) = .agg (spaceZ.map fun n => .lit (.int .u8 n)) := by kernel_rfl
theorem space_cell {W : World} (h : laidMetH Tryz.prog Rows.catalogNilRow.laid W) : (∀ r, r < 256 → W.cell? ⟨0, r, none⟩ = some (.int .u8 (spaceZ.getD r 0))) := by
  intro r hr
  rw [MakeChecks.laidMetH_plain _ _ _ (by kernel_rfl)] at h
  have hread : Lib.VarReads Tryz.prog W "strings.asciiSpace" Rows.laid_strings_asciiSpace := Lib.laidMet.reads h (by simp [Rows.catalogNilRow])
  obtain ⟨g, t, cs, fuel, p, hg, ht, hv, hd⟩ := hread
  obtain rfl := Option.some.inj ((show Tryz.prog.globalNamed "strings.asciiSpace" = some 0 by kernel_rfl).symm.trans hg)
  obtain rfl := Option.some.inj ((show (Tryz.prog.globals[0]?).map (·.type) = some 278 by kernel_rfl).symm.trans ht)
  rw [space_eq] at hd
  obtain ⟨xs, m, _, ex, _, hl, hel⟩ := DataW.trod_array Tryz.underlying278 hd
  have c5 : Tryz.prog.cellsOf 5 = 1 := by kernel_rfl
  have hE := hel r hr
  rw [c5, Nat.mul_one, List.getElem?_eq_getElem (by omega)] at hE
  obtain ⟨z, e1, e2, _⟩ := DataW.trod_int Tryz.underlying5 hE
  have hlen : spaceZ.length = 256 := by kernel_rfl
  have e3 : (xs.map (·.1)) = spaceZ.map fun n => .lit (.int .u8 n) := (DataW.agg.inj (Prod.mk.inj ex).1).symm
  have e4 : (xs.map (·.1))[r]? = (spaceZ.map fun n => (DataW.lit (.int .u8 n) : DataW Unit))[r]? := by rw [e3]
  rw [List.getElem?_map, List.getElem?_map, List.getElem?_eq_getElem (by omega : r < xs.length), List.getElem?_eq_getElem (by omega : r < spaceZ.length), e2] at e4
  have hz : z = spaceZ.getD r 0 := by
    simp only [Option.map_some, Option.some.injEq, DataW.lit.injEq, Lit.int.injEq, true_and] at e4
    rw [e4, List.getD, List.getElem?_eq_getElem (by omega : r < spaceZ.length)]; rfl
  rw [World.var?_cell hg hv r, ← hz]
  have : cs.toList[r]? = some (.int .u8 z) := by
    have h0 : ((cs.toList.drop r).take 1)[0]? = some (.int .u8 z) := by rw [e1]; rfl
    simpa using h0
  simpa using this

/-- the frame of a row whose contract may use the start's shape -/
theorem handed_shaped {H : Type} {enc : TypeId × Value → H} {a : Assume} {C : Checked} {os : Os} {f : FuncId} {fn : Func} {s : ChangeSpec} {conds : List PathCond} {apart fresh handsOn again : Bool} {X : World → Array Value → Prop}
    (hX : ∀ (w w' : World) (args : Array Value), w.heap = w'.heap → X w args → X w' args)
    (own : ownKnob C.prog.godebug = none) (started : os.Started) (noInit : C.prog.inits.idxOf? f = none) (hfn : C.prog.funcs[f]? = some fn)
    (witness : ∃ (w : World) (tape : Tape) (i : Input), w.os = os ∧ (w.forCall tape i).Shaped C.prog ∧ i.vars = [] ∧ Input.okWide C.prog (w.forCall tape i) .any w.heap.size f i ∧
      ((s.pre enc C.prog fn conds apart (w.forCall tape i).memory i.args ∧ X (w.forCall tape i).memory i.args) ∧ sizedMet enc C.prog fn (OpenSpec.ofChange s) apart (w.forCall tape i).memory i.args) ∧ a.holds C.prog (lone (Frame.enter C.prog f i.args .normal) [] (w.forCall tape i)))
    (contract : ∀ (W : World) (base : Nat) (args : Array Value) (ds gs : List (DataW H)) (before : List MemPlace),
      (∀ (j : Nat) t v, fn.params[j]? = some t → args[j]? = some v → Value.okWide C.prog W .any base t v) →
      DataW.Whole enc C.prog fn.params.toList s.vars apart W args.toList ds gs before → X W args → W.ShapedOpen C.prog →
      Calls C.prog f args W fun e W' => ∃ v, e = .returned v ∧ s.post enc C.prog fn apart fresh handsOn again W args v W') :
    ReturnsInHanded a C os f .any (fun w args => (s.pre enc C.prog fn conds apart w args ∧ X w args) ∧ sizedMet enc C.prog fn (OpenSpec.ofChange s) apart w args) (s.post enc C.prog fn apart fresh handsOn again) := by
  refine returnsInHanded_of_calls own started noInit witness ?_
  intro w tape i _ hsh _ hok hpre _
  obtain ⟨_, _, _, fn', hfn', _, _, _, _, hval⟩ := hok
  have e : fn' = fn := Option.some.inj (hfn'.symm.trans hfn)
  subst e
  obtain ⟨⟨⟨ds, gs, before, hw, _⟩, hx⟩, _⟩ := hpre
  have hw' := DataW.Whole.of_heap (w' := w.forCall tape i) (by rfl) hw
  refine (contract (w.forCall tape i) w.heap.size i.args ds gs before hval hw' (hX _ _ _ (by rfl) hx) hsh).mono fun e W' ⟨v, he, hp⟩ => ?_
  subst he
  exact ChangeSpec.post_blind hp

theorem w0_13 : (((begin Tryz.prog (fun _ _ => 0) default).world.heap[13]?).bind Obj.row?).isSome = true := by kernel_rfl
theorem shaped_size {W : World} (h : W.ShapedOpen Tryz.prog) : 14 ≤ W.heap.size := by
  obtain ⟨h1, _⟩ := h
  obtain ⟨⟨z, t⟩, hz⟩ := Option.isSome_iff_exists.1 w0_13
  obtain ⟨cs, h2, _⟩ := h1 13 z t (by have : Tryz.prog.globals.size = 14 := (by kernel_rfl); omega) hz
  have := (Array.getElem?_eq_some_iff.1 h2).1
  omega
theorem space_list : X.asciiSp = spaceZ.map fun n => Value.int .u8 n := by kernel_rfl
theorem gt_some : ∀ {g : Nat} {l : List Value}, X.cx.gt g = some l → g = 0 ∧ l = X.asciiSp
  | 0, l, h => ⟨rfl, (Option.some.inj (show some X.asciiSp = some l from h)).symm⟩
  | g + 1, l, h => by
    have h : (none : Option (List Value)) = some l := h
    cases h
theorem rel0 {W : World} (hL : laidMetH Tryz.prog Rows.catalogNilRow.laid W) (hsz : 14 ≤ W.heap.size) :
    X.Rel X.cx { blk := fun i => if i < 14 then some (i, 0) else none, sz := fun _ => none } { heap := .leaf, next := 14 } W := by
  have hG : X.cx.G = 14 := rfl
  refine ⟨fun i hi => ?_, fun _ _ => rfl, Nat.le_refl _, fun i o hi => ?_, fun i j o o' b sh sh' hi => ?_, fun b n hb => (by cases hb), fun i b sh hb => ?_, fun g hg => ?_, fun g l hg hl => ?_, hsz⟩
  · have hi : 14 ≤ i := hi
    have : ¬ i < 14 := by omega
    simp only [if_neg this]
  · have hi : X.PT.get (X.PT.leaf : X.PT X.AObj) i = some o := hi
    cases hi
  · have hi : X.PT.get (X.PT.leaf : X.PT X.AObj) i = some o := hi
    cases hi
  · simp only at hb
    split at hb
    · cases hb; omega
    · cases hb
  · have hg : g < 14 := hg
    simp only [if_pos hg]
  · have h0 : g = 0 ∧ l = X.asciiSp := by
      exact gt_some hl
    obtain ⟨rfl, rfl⟩ := h0
    have hcell := space_cell hL
    have hc0 := hcell 0 (by omega)
    unfold World.cell? at hc0
    simp only at hc0
    split at hc0
    · rename_i c el fz hh
      refine ⟨c, el, fz, hh, fun k v hk => ?_⟩
      rw [space_list, List.getElem?_map] at hk
      have hlen : spaceZ.length = 256 := by kernel_rfl
      cases hq : spaceZ[k]? with
      | none => rw [hq] at hk; cases hk
      | some z =>
        rw [hq] at hk
        simp only [Option.map_some, Option.some.injEq] at hk
        have hlt : k < 256 := by have := (List.getElem?_eq_some_iff.1 hq).1; omega
        have hck := hcell k hlt
        unfold World.cell? at hck
        simp only [hh, Option.isSome_none, Bool.false_eq_true, if_false] at hck
        refine ⟨?_, 0, by rw [← hk]; rfl⟩
        rw [hck, ← hk, List.getD, hq]; rfl
    · cases hc0
end Go.Proofs.YtofffmieimggmaaGreatDoor
