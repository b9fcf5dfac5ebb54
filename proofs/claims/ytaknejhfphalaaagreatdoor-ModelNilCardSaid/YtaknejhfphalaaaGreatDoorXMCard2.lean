import Derived.Test.YtaknejhfphalaaaGreatDoorXMCard
/-
  The card of ModelNil.
-/
namespace Go.Proofs.YtaknejhfphalaaaGreatDoor
open Go.ChangeShapes Go.WideShapes Go.ChangeAt Go.RowKit
set_option maxRecDepth 100000

section
variable {H : Type} {enc : TypeId × Value → H} {P : Program}
/-- the row's last step where the call leaves new blocks -/
theorem post_of_below {f : Func} {s : ChangeSpec} {apart fresh handsOn again : Bool} {W W' : World} {args : Array Value} {v : Value} {ds gs : List (DataW H)} {before pa pv : List MemPlace}
    (hW : DataW.Whole enc P f.params.toList s.vars apart W args.toList ds gs before)
    (hres : ∀ (b : Nat) (sp : Nat → Bool) (hd : Bool), DataW.TrodAll enc P W' b sp hd f.resultTypes.toList (v.resultList f.resultTypes.size) (s.fn H (ds ++ gs)).results [])
    (hargs : ∀ sp : Nat → Bool, (∀ p ∈ before, sp p.block = true) → DataW.TrodAll enc P W' 0 sp true f.params.toList args.toList (s.fn H (ds ++ gs)).args pa)
    (hvars : ∀ sp : Nat → Bool, (∀ p ∈ before, sp p.block = true) → DataW.TrodVars enc P W' sp s.vars (s.fn H (ds ++ gs)).vars pv)
    (hps : before = pa ++ pv) (hb : Below W.heap.size W W')
    (hok : ∀ (j : Nat) (t : TypeId) (r : Value), f.resultTypes[j]? = some t → (v.resultList f.resultTypes.size)[j]? = some r → Value.okWide P W' .any 0 t r) :
    s.post enc P f apart fresh handsOn again W args v W' := by
  have hlt : ∀ p ∈ before, p.block < W.heap.size := fun p hp => hW.lt p hp
  have hold : ∀ p ∈ before, (fun b => decide (b < W.heap.size)) p.block = true := fun p hp => by simpa using hlt p hp
  refine ⟨ds, gs, before, [], pa, pv, hW, hres _ _ _, hargs _ hold, hvars _ hold, World.keptBut_mono (fun p hp => ⟨hp, ?_⟩) (hb.frame (· ∈ before)), fun _ => ?_⟩
  · rw [hps, List.mem_append] at hp
    exact Or.inr hp
  · obtain ⟨_, _, _, _, _, hz, hn⟩ := hW
    refine ⟨hok, _, _, ([] ++ pa) ++ pv, ⟨[] ++ pa, pv, trodAll_append (hargs _ (fun _ _ => rfl)) (hres _ _ _), hvars _ (fun _ _ => rfl), rfl, ?_, ?_⟩, ?_⟩
    · intro b off hp
      have hin : MemPlace.cell b off ∈ before := by rw [hps]; simpa using hp
      rw [hb.frozen (hlt _ hin)]
      exact hz b off hin
    · intro ha
      have := hn ha
      rw [hps] at this
      simpa using this
    · intro p hp _
      rw [hps]
      simpa using hp
end

theorem ts24 : Tryz.prog.cellTypes Tryz.prog.depth 24 = some [3, 9, 2, 22] := by kernel_rfl
theorem size24 : Tryz.prog.cellsOf 24 = 4 := by kernel_rfl
theorem act_open {W : World} {base : Nat} {v : Value} (h : Value.okWide Tryz.prog W .any base 24 v) :
    ∃ (c : Array Value) (s : ByteArray), v = .agg c ∧ c.size = 4 ∧ c[1]? = some (.string s) := by
  unfold Value.okWide at h
  simp only [Tryz.underlying24] at h
  obtain ⟨c, rfl, hsz, ts, hts, _, hcell⟩ := h
  rw [ts24] at hts
  cases hts
  rw [size24] at hsz
  have e1 : c[1]? = some c[1] := Array.getElem?_eq_getElem (by omega)
  obtain ⟨u, hu, h1⟩ := hcell 1 _ e1
  have hu : u = 9 := by simpa using hu.symm
  subst hu
  have h2 : ∃ s, c[1] = .string s := by
    generalize c[1] = v at h1
    unfold Cell.okWide at h1
    simp only [Tryz.underlying9] at h1
    cases v <;> simp [Cell.ok, Tryz.underlying9] at h1
    exact ⟨_, rfl⟩
  obtain ⟨s, h2⟩ := h2
  exact ⟨c, s, rfl, hsz, by rw [e1, h2]⟩
theorem below_of {W W' : World} (h : X.Grown W W') : Below W.heap.size W W' := ⟨h.1, h.2.1, h.2.2.1, h.2.2.2.1, h.2.2.2.2⟩
def act0 : Value := .agg #[.int .i64 (.ofNat 0), .string ⟨#[]⟩, .int .i64 (.ofNat 0), .slice Option.none 0 0]
theorem lifted (os : Os) (started : os.Started) (H : Type) (enc : TypeId × Value → H) :
    ReturnsInHanded {} Tryz.checked os 3 .any (fun w args => (Rows.modelNilSpec.pre enc Tryz.prog Tryz.f3 Rows.modelNilRow.domain false w args ∧ laidMetH Tryz.prog Rows.modelNilRow.laid w) ∧ sizedMet enc Tryz.prog Tryz.f3 (OpenSpec.ofChange Rows.modelNilSpec) false w args)
      (Rows.modelNilSpec.post enc Tryz.prog Tryz.f3 false true false false) := by
  refine handed_shaped (C := Tryz.checked) (X := fun w _ => laidMetH Tryz.prog Rows.modelNilRow.laid w) (fun _ _ _ hh h => h.of_heap hh) own started (by kernel_rfl) Tryz.func3
    (ChangeSpec.witness_shaped (enc := enc) (C := Tryz.checked) (os := os) (X := fun w _ => laidMetH Tryz.prog Rows.modelNilRow.laid w) false (World.laidAll Tryz.prog os Rows.modelNilRow.laid) #[act0] 8 (World.laidAll_os _ _ _)
      (World.shaped_of_ZipB (by kernel_rfl) (by kernel_rfl)) (by kernel_rfl) (by kernel_rfl) (by kernel_rfl)
      (by rw [MakeChecks.laidMetH_plain _ _ _ (by kernel_rfl)]; exact laidMet_laidAll _ (by kernel_rfl) (by kernel_rfl))) ?_
  intro W base args ds gs before hval0 hW hL hsh
  have hval : ∀ (j : Nat) t v, Tryz.f3.params[j]? = some t → args[j]? = some v → Value.okWide Tryz.prog W .any base t v := hval0
  have hW' := hW
  obtain ⟨p, q, hA0, hV, rfl, _, _⟩ := hW
  have hA : DataW.TrodAll enc Tryz.prog W 0 (fun _ => true) true Tryz.f3.params.toList args.toList ds p := hA0
  rw [Tryz.params3] at hA hval
  obtain ⟨v0, d0, rfl, rfl, h0⟩ := trodAll_one hA
  obtain ⟨rfl, rfl⟩ := trodVars_none hV
  obtain ⟨c, s, rfl, hsz, h1⟩ := act_open (hval 0 24 v0 rfl rfl)
  simp only [List.append_nil] at hW'
  refine (X.law_ok (rel0 hL (shaped_size hsh)) hsz h1).mono fun e W' ⟨he, hg⟩ => ?_
  subst he
  have hb := below_of hg
  have hlt : ∀ x ∈ p, x.block < W.heap.size := fun x hx => by simpa using hW'.lt x hx
  refine ⟨_, rfl, post_of_below (pa := p) (pv := []) hW' (fun _ _ _ => trodAll_mk1 (shut_bool Tryz.underlying4 _)) (fun sp hsp => ?_) (fun _ _ => rfl) (by simp) hb (ok_one (by kernel_rfl) rfl (okWide_bool_mk Tryz.underlying4 _))⟩
  exact trodAll_mk1 (WideElems.Trod_stays laidOut (by kernel_rfl) (of_decide_eq_true (by kernel_rfl)) h0 (fun x hx => hb.same (hlt x hx)) hsp)
end Go.Proofs.YtaknejhfphalaaaGreatDoor
