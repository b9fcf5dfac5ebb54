import Derived.Test.YtaknejhfphalaaaGreatDoorXMLaw
import Derived.Test.YtaknejhfphalaaaGreatDoorCards
import Derived.ProofKit
import Derived.OpenShut
import Derived.LaidMore
import Derived.Lay
import Derived.Lib.LaidU8
import Derived.Carry
import Derived.SevenTiedAt
import Derived.Stop.Joined
/-
  The card of ModelNil.
-/
namespace Go.Proofs.YtaknejhfphalaaaGreatDoor
open Go.ChangeShapes Go.WideShapes Go.ChangeAt Go.RowKit
set_option maxRecDepth 100000

theorem own : ownKnob Tryz.prog.godebug = none := by kernel_rfl
theorem laidOut : laidOutB Tryz.prog = true := by kernel_rfl
def spaceZ : List Int := [0,0,0,0,0,0,0,0,0,1,1,1,1,1,0,0,0,0,0,0,0,0,0,0,0,0,0,0,0,0,0,0,1] ++ List.replicate 223 0
theorem space_eq : Rows.laid_strings_asciiSpace (H := Unit) = .agg (spaceZ.map fun n => .lit (.int .u8 n)) := by kernel_rfl
def powZ : List Int := [1, 10, 100, 1000, 10000, 100000, 1000000, 10000000, 100000000, 1000000000, 10000000000, 100000000000, 1000000000000, 10000000000000, 100000000000000, 1000000000000000, 10000000000000000, 100000000000000000, 1000000000000000000, 10000000000000000000]
theorem pow_eq : Rows.laid_internal_strconv_uint64pow10 (H := Unit) = .agg (powZ.map fun n => .lit (.int .u64 n)) := by kernel_rfl
theorem space_cell {W : World} (h : laidMetH Tryz.prog Rows.modelNilRow.laid W) : (∀ r, r < 256 → W.cell? ⟨1, r, none⟩ = some (.int .u8 (spaceZ.getD r 0))) := by
  intro r hr
  rw [MakeChecks.laidMetH_plain _ _ _ (by kernel_rfl)] at h
  have hread : Lib.VarReads Tryz.prog W "strings.asciiSpace" Rows.laid_strings_asciiSpace := Lib.laidMet.reads h (by simp [Rows.modelNilRow])
  obtain ⟨g, t, cs, fuel, p, hg, ht, hv, hd⟩ := hread
  obtain rfl := Option.some.inj ((show Tryz.prog.globalNamed "strings.asciiSpace" = some 1 by kernel_rfl).symm.trans hg)
  obtain rfl := Option.some.inj ((show (Tryz.prog.globals[1]?).map (·.type) = some 337 by kernel_rfl).symm.trans ht)
  rw [space_eq] at hd
  obtain ⟨xs, m, _, ex, _, hl, hel⟩ := DataW.trod_array Tryz.underlying337 hd
  have c5 : Tryz.prog.cellsOf 5 = 1 := by kernel_rfl
  have hE := hel r hr
  rw [c5, Nat.mul_one, List.getElem?_eq_getElem (by omega)] at hE
  obtain ⟨z, e1, e2, _⟩ := DataW.trod_int Tryz.underlying5 hE
  have hlen : spaceZ.length = 256 := by kernel_rfl
  have e3 : (xs.map (·.1)) = spaceZ.map fun n => .lit (.int .u8 n) := (DataW.agg.inj (Prod.mk.inj ex).1).symm
  have e4 : (xs.map (·.1))[r]? = (spaceZ.map fun n => (DataW.lit (.int .u8 n) : DataW Unit))[r]? := by rw [e3]
  rw [List.getElem?_map, List.getElem?_map, List.getElem?_eq_getElem (by omega : r < xs.length), List.getElem?_eq_getElem (by omega : r < spaceZ.length), e2] at e4
  have hz : z = spaceZ.getD r 0 := by
    simp only [Option.map_some, Option.some.injEq, DataW.lit.injEq, Lit.int.injEq, true_and] at e4
    rw [e4, List.getD, List.getElem?_eq_getElem (by omega : r < spaceZ.length)]; rfl
  rw [World.var?_cell hg hv r, ← hz]
  have : cs.toList[r]? = some (.int .u8 z) := by
    have h0 : ((cs.toList.drop r).take 1)[0]? = some (.int .u8 z) := by rw [e1]; rfl
    simpa using h0
  simpa using this
theorem pow_cell {W : World} (h : laidMetH Tryz.prog Rows.modelNilRow.laid W) : (∀ r, r < 20 → W.cell? ⟨9, r, none⟩ = some (.int .u64 (powZ.getD r 0))) := by
  intro r hr
  rw [MakeChecks.laidMetH_plain _ _ _ (by kernel_rfl)] at h
  have hread : Lib.VarReads Tryz.prog W "internal/strconv.uint64pow10" Rows.laid_internal_strconv_uint64pow10 := Lib.laidMet.reads h (by simp [Rows.modelNilRow])
  obtain ⟨g, t, cs, fuel, p, hg, ht, hv, hd⟩ := hread
  obtain rfl := Option.some.inj ((show Tryz.prog.globalNamed "internal/strconv.uint64pow10" = some 9 by kernel_rfl).symm.trans hg)
  obtain rfl := Option.some.inj ((show (Tryz.prog.globals[9]?).map (·.type) = some 559 by kernel_rfl).symm.trans ht)
  rw [pow_eq] at hd
  obtain ⟨xs, m, _, ex, _, hl, hel⟩ := DataW.trod_array Tryz.underlying559 hd
  have c5 : Tryz.prog.cellsOf 243 = 1 := by kernel_rfl
  have hE := hel r hr
  rw [c5, Nat.mul_one, List.getElem?_eq_getElem (by omega)] at hE
  obtain ⟨z, e1, e2, _⟩ := DataW.trod_int Tryz.underlying243 hE
  have hlen : powZ.length = 20 := by kernel_rfl
  have e3 : (xs.map (·.1)) = powZ.map fun n => .lit (.int .u64 n) := (DataW.agg.inj (Prod.mk.inj ex).1).symm
  have e4 : (xs.map (·.1))[r]? = (powZ.map fun n => (DataW.lit (.int .u64 n) : DataW Unit))[r]? := by rw [e3]
  rw [List.getElem?_map, List.getElem?_map, List.getElem?_eq_getElem (by omega : r < xs.length), List.getElem?_eq_getElem (by omega : r < powZ.length), e2] at e4
  have hz : z = powZ.getD r 0 := by
    simp only [Option.map_some, Option.some.injEq, DataW.lit.injEq, Lit.int.injEq, true_and] at e4
    rw [e4, List.getD, List.getElem?_eq_getElem (by omega : r < powZ.length)]; rfl
  rw [World.var?_cell hg hv r, ← hz]
  have : cs.toList[r]? = some (.int .u64 z) := by
    have h0 : ((cs.toList.drop r).take 1)[0]? = some (.int .u64 z) := by rw [e1]; rfl
    simpa using h0
  simpa using this

/-- the frame of a row whose contract may use the start's shape -/
theorem handed_shaped {H : Type} {enc : TypeId × Value → H} {a : Assume} {C : Checked} {os : Os} {f : FuncId} {fn : Func} {s : ChangeSpec} {conds : List PathCond} {apart fresh handsOn again : Bool} {X : World → Array Value → Prop}
    (hX : ∀ (w w' : World) (args : Array Value), w.heap = w'.heap → X w args → X w' args)
    (own : ownKnob C.prog.godebug = none) (started : os.Started) (noInit : C.prog.inits.idxOf? f = none) (hfn : C.prog.funcs[f]? = some fn)
    (witness : ∃ (w : World) (tape : Tape) (i : Input), w.os = os ∧ (w.forCall tape i).Shaped C.prog ∧ i.vars = [] ∧ Input.okWide C.prog (w.forCall tape i) .any w.heap.size f i ∧
      ((s.pre enc C.prog fn conds apart (w.forCall tape i).memory i.args ∧ X (w.forCall tape i).memory i.args) ∧ sizedMet enc C.prog fn (OpenSpec.ofChange s) apart (w.forCall tape i).memory i.args) ∧ a.holds C.prog (lone (Frame.enter C.prog f i.args .normal) [] (w.forCall tape i)))
    (contract : ∀ (W : World) (base : Nat) (args : Array Value) (ds gs : List (DataW H)) (before : List MemPlace),
      (∀ (j : Nat) t v, fn.params[j]? = some t → args[j]? = some v → Value.okWide C.prog W .any base t v) →
      DataW.Whole enc C.prog fn.params.toList s.vars apart W args.toList ds gs before → X W args → W.ShapedOpen C.prog →
      Calls C.prog f args W fun e W' => ∃ v, e = .returned v ∧ s.post enc C.prog fn apart fresh handsOn again W args v W') :
    ReturnsInHanded a C os f .any (fun w args => (s.pre enc C.prog fn conds apart w args ∧ X w args) ∧ sizedMet enc C.prog fn (OpenSpec.ofChange s) apart w args) (s.post enc C.prog fn apart fresh handsOn again) := by
  refine returnsInHanded_of_calls own started noInit witness ?_
  intro w tape i _ hsh _ hok hpre _
  obtain ⟨_, _, _, fn', hfn', _, _, _, _, hval⟩ := hok
  have e : fn' = fn := Option.some.inj (hfn'.symm.trans hfn)
  subst e
  obtain ⟨⟨⟨ds, gs, before, hw, _⟩, hx⟩, _⟩ := hpre
  have hw' := DataW.Whole.of_heap (w' := w.forCall tape i) (by rfl) hw
  refine (contract (w.forCall tape i) w.heap.size i.args ds gs before hval hw' (hX _ _ _ (by rfl) hx) hsh).mono fun e W' ⟨v, he, hp⟩ => ?_
  subst he
  exact ChangeSpec.post_blind hp

theorem w0_14 : (((begin Tryz.prog (fun _ _ => 0) default).world.heap[14]?).bind Obj.row?).isSome = true := by kernel_rfl
theorem shaped_size {W : World} (h : W.ShapedOpen Tryz.prog) : 15 ≤ W.heap.size := by
  obtain ⟨h1, _⟩ := h
  obtain ⟨⟨z, t⟩, hz⟩ := Option.isSome_iff_exists.1 w0_14
  obtain ⟨cs, h2, _⟩ := h1 14 z t (by have : Tryz.prog.globals.size = 15 := (by kernel_rfl); omega) hz
  have := (Array.getElem?_eq_some_iff.1 h2).1
  omega
theorem space_list : X.asciiSp = spaceZ.map fun n => Value.int .u8 n := by kernel_rfl
theorem pow_list : X.pow10 = powZ.map fun n => Value.int .u64 n := by kernel_rfl
theorem gt_some {g : Nat} {l : List Value} (h : X.cx.gt g = some l) : (g = 1 ∧ l = X.asciiSp) ∨ (g = 9 ∧ l = X.pow10) := by
  revert h
  show (match g with | 1 => some X.asciiSp | 9 => some X.pow10 | _ => Option.none) = some l → _
  split
  · intro h; cases h; exact .inl ⟨rfl, rfl⟩
  · intro h; cases h; exact .inr ⟨rfl, rfl⟩
  · intro h; cases h
/-- a table, cell by cell -/
theorem table_of {W : World} {g n : Nat} {k : IntKind} {zs : List Int} (hlen : zs.length = n) (hcell : ∀ r, r < n → W.cell? ⟨g, r, Option.none⟩ = some (.int k (zs.getD r 0))) (h0 : 0 < n) :
    ∃ (c : Array Value) (el : TypeId) (fz : Nat × Nat), W.heap[g]? = some (.cells c el fz) ∧ ∀ (j : Nat) (v : Value), (zs.map fun z => Value.int k z)[j]? = some v → c[j]? = some v ∧ ∃ d, X.ground d v = true := by
  have hc0 := hcell 0 h0
  unfold World.cell? at hc0
  simp only at hc0
  split at hc0
  · rename_i c el fz hh
    refine ⟨c, el, fz, hh, fun j v hk => ?_⟩
    rw [List.getElem?_map] at hk
    cases hq : zs[j]? with
    | none => rw [hq] at hk; cases hk
    | some z =>
      rw [hq] at hk
      simp only [Option.map_some, Option.some.injEq] at hk
      have hlt : j < n := by have := (List.getElem?_eq_some_iff.1 hq).1; omega
      have hck := hcell j hlt
      unfold World.cell? at hck
      simp only [hh, Option.isSome_none, Bool.false_eq_true, if_false] at hck
      refine ⟨?_, 0, by rw [← hk]; rfl⟩
      rw [hck, ← hk, List.getD, hq]; rfl
  · cases hc0
theorem rel0 {W : World} (hL : laidMetH Tryz.prog Rows.modelNilRow.laid W) (hsz : 15 ≤ W.heap.size) :
    X.Rel X.cx { blk := fun i => if i < 15 then some (i, 0) else Option.none, sz := fun _ => Option.none } { heap := .leaf, next := 15 } W := by
  have hG : X.cx.G = 15 := rfl
  refine ⟨fun i hi => ?_, fun _ _ => rfl, Nat.le_refl _, fun i o hi => ?_, fun i j o o' b sh sh' hi => ?_, fun b n hb => (by cases hb), fun i b sh hb => ?_, fun g hg => ?_, fun g l hg hl => ?_, hsz⟩
  · have hi : 15 ≤ i := hi
    have : ¬ i < 15 := by omega
    simp only [if_neg this]
  · have hi : X.PT.get (X.PT.leaf : X.PT X.AObj) i = some o := hi
    cases hi
  · have hi : X.PT.get (X.PT.leaf : X.PT X.AObj) i = some o := hi
    cases hi
  · simp only at hb
    split at hb
    · cases hb; omega
    · cases hb
  · have hg : g < 15 := hg
    simp only [if_pos hg]
  · rcases gt_some hl with ⟨rfl, rfl⟩ | ⟨rfl, rfl⟩
    · rw [space_list]
      exact table_of (n := 256) (by kernel_rfl) (space_cell hL) (by omega)
    · rw [pow_list]
      exact table_of (n := 20) (by kernel_rfl) (pow_cell hL) (by omega)
end Go.Proofs.YtaknejhfphalaaaGreatDoor
