import Derived.Test.YtaknejhfphalaaaGreatDoorXOp2
/-
  Part six: the operations that look at no block: addresses, slices, strings, what is built.
-/
namespace Go.X
open Go
variable {x : Cx} {e : Env} {S : AS} {w : World}

theorem natOf_ok {v : Value} {n : Nat} (h : natOf v = some n) : ∃ k, v = .int k (.ofNat n) := by
  unfold natOf at h
  split at h
  · rename_i k m; cases h; exact ⟨k, rfl⟩
  · cases h
theorem VR.nat_inv {v v' : Value} {n : Nat} (hv : VR e v v') (h : natOf v = some n) : ∃ k, v' = .int k (.ofNat n) := by
  obtain ⟨k, rfl⟩ := natOf_ok h; exact ⟨k, hv.int_inv⟩
theorem add_mk (b o n : Nat) : (⟨b, o, none⟩ : Addr).add n = ⟨b, o + n, none⟩ := Addr.add_mid b o n

theorem nilCheckV_ok {a a' v : Value} (ha : VR e a a') (h : nilCheckV a = some v) : ∃ p, a' = .pointer (some p) ∧ VR e v a' := by
  unfold nilCheckV at h
  split at h
  · cases h
    obtain ⟨b, sh, h1, h2, rfl⟩ := ha.ptr_inv
    exact ⟨_, rfl, ha⟩
  · cases h
theorem fieldAddrV_ok {a a' : Value} {t : TypeId} {i : Nat} (ha : VR e a a') : Says x e w (fieldAddrV x t a i) (Instr.fieldAt t a' i) := by
  intro v h
  unfold fieldAddrV at h
  split at h
  · rename_i p
    split at h
    · cases h
    · rename_i hsp
      split at h
      · rename_i fields hu
        split at h
        · rename_i f hf
          split at h
          · rename_i n hn
            cases h
            rw [nth_eq] at hf
            have hf : fields[i]? = some f := by simpa using hf
            obtain ⟨b, sh, h1, h2, rfl⟩ := ha.ptr_inv
            refine ⟨_, ?_, .ptr p.block (Nat.add p.off f.offset) b sh h1⟩
            unfold Instr.fieldAt
            simp only [Sem.run_bind, run_underlying hu, Result.andThen_ok, hf, Instr.sureAddr, Sem.run_pure, fieldPlace, sizeT_run hn, Nat.add_one_ne_zero, if_false, add_mk]
            congr 4
            exact (Nat.add_assoc _ _ _)
          · cases h
        · cases h
      · cases h
  · cases h
theorem elemAt_ok {elem : TypeId} {a : Addr} {i len b sh : Nat} {v : Value} (h1 : e.blk a.block = some (b, sh)) (h : elemAt x elem a i len = some v) :
    i < len ∧ ∃ n, sizeT x elem = some n ∧ VR e v (.pointer (some ⟨b, sh + a.off + i * n, none⟩)) := by
  unfold elemAt at h
  split at h
  · cases h
  · split at h
    · rename_i hlt
      split at h
      · rename_i n hn
        cases h
        refine ⟨blt_iff.1 hlt, n, hn, ?_⟩
        have := VR.ptr (e := e) a.block (Nat.add a.off (Nat.mul i n)) b sh h1
        have h2 : sh + Nat.add a.off (Nat.mul i n) = sh + a.off + i * n := (Nat.add_assoc _ _ _).symm
        rw [h2] at this; exact this
      · cases h
    · cases h
theorem indexAddrV_ok {a a' i i' : Value} {t : TypeId} (ha : VR e a a') (hi : VR e i i') : Says x e w (indexAddrV x t a i) (Instr.indexAt t a' i') := by
  intro v h
  unfold indexAddrV at h
  split at h
  · cases h
  · rename_i n hn
    obtain ⟨k, rfl⟩ := hi.nat_inv hn
    split at h
    · rename_i p len kk
      split at h
      · rename_i elem hu
        obtain ⟨b, sh, off', cc, sz, h1, h2, rfl, h4, _, _, _, _, hoff⟩ := ha.slice_inv
        obtain ⟨hlt, m, hm, hv⟩ := elemAt_ok h2 h
        refine ⟨_, ?_, hv⟩
        have h0 : 0 ≤ (Int.ofNat n) ∧ (Int.ofNat n) < (len : Int) := ⟨Int.natCast_nonneg n, Int.ofNat_lt.2 hlt⟩
        have := hoff (by omega)
        subst this
        unfold Instr.indexAt
        simp only [Sem.run_bind, asIntOf, Sem.run_pure, Result.andThen_ok, run_underlying hu, h0, and_self, if_true, sizeT_run hm, add_mk]
        rfl
      · cases h
    · rename_i p
      split at h
      · rename_i len elem hu
        obtain ⟨b, sh, h2, hsp, rfl⟩ := ha.ptr_inv
        obtain ⟨hlt, m, hm, hv⟩ := elemAt_ok h2 h
        refine ⟨_, ?_, hv⟩
        have h0 : 0 ≤ (Int.ofNat n) ∧ (Int.ofNat n) < (len : Int) := ⟨Int.natCast_nonneg n, Int.ofNat_lt.2 hlt⟩
        unfold Instr.indexAt
        simp only [Sem.run_bind, asIntOf, Sem.run_pure, Result.andThen_ok, run_underlying hu, Instr.sureAddr, h0, and_self, if_true, sizeT_run hm, add_mk]
        rfl
      · cases h
    · cases h
theorem indexV_ok {a a' i i' : Value} {t : TypeId} (ha : VR e a a') (hi : VR e i i') : Says x e w (indexV x t a i) (Instr.index t a' i') := by
  intro v h
  unfold indexV at h
  split at h
  · cases h
  · rename_i n hn
    obtain ⟨k, rfl⟩ := hi.nat_inv hn
    split at h
    · rename_i s
      split at h
      · rename_i hu
        split at h
        · rename_i b hb
          cases h
          rw [nth_eq] at hb
          rw [ha.string_inv]
          refine ⟨_, ?_, .ground _ 0 rfl⟩
          have h0 : (0 : Int) ≤ Int.ofNat n := Int.natCast_nonneg n
          have hb' : s[(Int.ofNat n).toNat]? = some b := by
            have h1 : n < s.data.toList.length := (List.getElem?_eq_some_iff.1 hb).1
            have h2 : n < s.size := by rw [Array.length_toList] at h1; exact h1
            rw [getElem?_pos s (Int.ofNat n).toNat h2]
            have h3 := (List.getElem?_eq_some_iff.1 hb).2
            rw [← h3]; rfl
          unfold Instr.index
          simp only [Sem.run_bind, asIntOf, Sem.run_pure, Result.andThen_ok, run_underlying hu, h0, if_true, hb']
          rfl
        · cases h
      · cases h
    · rename_i cs
      split at h
      · rename_i len elem hu
        split at h
        · rename_i hlt
          split at h
          · rename_i m hm
            obtain ⟨c', rfl, h2⟩ := ha.agg_inv
            obtain ⟨v', h3, h4⟩ := partV_ok (w := w) h2 v h
            refine ⟨v', ?_, h4⟩
            have h0 : 0 ≤ (Int.ofNat n) ∧ (Int.ofNat n) < (len : Int) := ⟨Int.natCast_nonneg n, Int.ofNat_lt.2 (blt_iff.1 hlt)⟩
            unfold Instr.index
            simp only [Sem.run_bind, asIntOf, Sem.run_pure, Result.andThen_ok, run_underlying hu, h0, and_self, if_true, sizeT_run hm]
            simpa using h3
          · cases h
        · cases h
      · cases h
    · cases h
/-! slices of slices and strings -/
def VRO (e : Env) : Option Value → Option Value → Prop
  | none, none => True
  | some v, some v' => VR e v v'
  | _, _ => False
theorem natOr_ok {d n : Nat} {v v' : Option Value} (hv : VRO e v v') (h : natOr d v = some n) : (v' = none ∧ n = d) ∨ ∃ k, v' = some (.int k (.ofNat n)) := by
  unfold natOr at h
  split at h
  · cases h
    cases v' with
    | none => exact .inl ⟨rfl, rfl⟩
    | some _ => exact hv.elim
  · cases v' with
    | none => exact hv.elim
    | some u => obtain ⟨k, hk⟩ := VR.nat_inv hv h; exact .inr ⟨k, by rw [hk]⟩
theorem sliceBound_run {k : IntKind} {n y : Nat} {code : BoundsCode} (h : n ≤ y) : (Instr.sliceBound (.int k (.ofNat n)) y code).run x.P w = .ok n w := by
  have h0 : 0 ≤ (Int.ofNat n) ∧ (Int.ofNat n) ≤ (y : Int) := ⟨Int.natCast_nonneg n, Int.ofNat_le.2 h⟩
  unfold Instr.sliceBound
  simp only [Sem.run_bind, asIntOf, Sem.run_pure, Result.andThen_ok, h0, and_self, if_true]
  rfl
theorem sliceBounds_run {isS : Bool} {len cap l h : Nat} {lo hi lo' hi' : Option Value} (hlo : VRO e lo lo') (hhi : VRO e hi hi') (h1 : natOr 0 lo = some l) (h2 : natOr len hi = some h)
    (hl : l ≤ h) (hc : h ≤ cap) : (Instr.sliceBounds isS len cap lo' hi' none).run x.P w = .ok (l, h, cap) w := by
  unfold Instr.sliceBounds
  rcases natOr_ok hlo h1 with ⟨rfl, rfl⟩ | ⟨k, rfl⟩ <;> rcases natOr_ok hhi h2 with ⟨rfl, rfl⟩ | ⟨k', rfl⟩ <;>
    simp only [Sem.run_bind, Sem.run_pure, Result.andThen_ok, sliceBound_run hl, sliceBound_run hc]
theorem sliceBounds3_run {isS : Bool} {len cap l h m : Nat} {lo lo' : Option Value} {k k' : IntKind} (hlo : VRO e lo lo') (h1 : natOr 0 lo = some l)
    (hl : l ≤ h) (hc : h ≤ m) (hm : m ≤ cap) : (Instr.sliceBounds isS len cap lo' (some (.int k (.ofNat h))) (some (.int k' (.ofNat m)))).run x.P w = .ok (l, h, m) w := by
  unfold Instr.sliceBounds
  rcases natOr_ok hlo h1 with ⟨rfl, rfl⟩ | ⟨k, rfl⟩ <;>
    simp only [Sem.run_bind, Sem.run_pure, Result.andThen_ok, sliceBound_run hl, sliceBound_run hc, sliceBound_run hm]
theorem sliceV3_ok {a a' : Value} {t : TypeId} {lo hi lo' hi' : Option Value} {mx mx' : Value} (ha : VR e a a') (hlo : VRO e lo lo') (hhi : VRO e hi hi') (hmx : VR e mx mx') :
    Says x e w (sliceV3 x t a lo hi mx) (Instr.sliceAt t a' lo' hi' (some mx')) := by
  intro v h
  unfold sliceV3 at h
  split at h
  · cases h
  · rename_i m hm
    obtain ⟨km, hkm⟩ := VR.nat_inv hmx hm
    subst hkm
    split at h
    · cases h
    · rename_i hv
      cases hi' with
      | none => exact hhi.elim
      | some hv' =>
      split at h
      · cases h
      · rename_i hh hhh
        obtain ⟨kh, hkh⟩ := VR.nat_inv hhi hhh
        subst hkh
        split at h
        · cases h
        · rename_i l hl
          unfold slice3 at h
          split at h
          · rename_i p len k
            split at h
            · cases h
            · split at h
              · rename_i elem hu
                split at h
                · rename_i n hn
                  split at h
                  · rename_i hnk
                    split at h
                    · rename_i h0
                      split at h
                      · rename_i h1
                        split at h
                        · rename_i h2
                          cases h
                          have hnk := beq_iff.1 hnk; subst hnk
                          have h0 := ble_iff.1 h0
                          have h1 := ble_iff.1 h1
                          have h2 := ble_iff.1 h2
                          obtain ⟨b, sh, off', cc, sz, hsp, hb, rfl, h4, hm4, hs, hr, ho, hoff⟩ := ha.slice_inv
                          have hbd := sliceBounds3_run (x := x) (w := w) (isS := true) (len := len) (cap := cc) (k := kh) (k' := km) hlo hl h2 h1 (by omega)
                          refine ⟨.slice (some (if m = l then ⟨b, off', none⟩ else ⟨b, off' + l * n, none⟩)) (hh - l) (m - l), ?_, ?_⟩
                          · unfold Instr.sliceAt
                            simp only [Sem.run_bind, run_underlying hu, Result.andThen_ok]
                            unfold Instr.slice
                            simp only [Sem.run_bind, run_underlying hu, Result.andThen_ok, hbd, sizeT_run hn, Sem.run_pure, Option.map_some, add_mk]
                            congr 2
                            split <;> rfl
                          · have hrr : off' + l * n + (m - l) * n ≤ sz := by
                              have h5 : l * n + (m - l) * n = m * n := by rw [← Nat.add_mul]; congr 1; omega
                              have h6 : m * n ≤ cc * n := Nat.mul_le_mul_right _ (by omega)
                              omega
                            by_cases hz : hh - l = 0
                            · have hz' : Nat.sub hh l = 0 := hz
                              rw [hz', hz]
                              split
                              · exact .slice0 p.block _ n (m - l) b sh off' sz hb (by omega) hs ho (by omega)
                              · exact .slice0 p.block _ n (m - l) b sh (off' + l * n) sz hb (by omega) hs (by omega) hrr
                            · have hne : ¬ m = l := by omega
                              rw [if_neg hne]
                              have hof := hoff (by omega)
                              have hv := VR.slice (e := e) p.block (Nat.add p.off (Nat.mul l n)) (hh - l) n (m - l) b sh sz hb (by omega) (by omega) hs (by
                                have h5 : sh + Nat.add p.off (Nat.mul l n) = off' + l * n := by
                                  show sh + (p.off + l * n) = _
                                  omega
                                rw [h5]; exact hrr)
                              have h5 : sh + Nat.add p.off (Nat.mul l n) = off' + l * n := by
                                show sh + (p.off + l * n) = _
                                omega
                              rw [h5] at hv
                              exact hv
                        · cases h
                      · cases h
                    · cases h
                  · cases h
                · cases h
              · cases h
          · cases h
theorem sliceV_ok {a a' : Value} {t : TypeId} {lo hi mx lo' hi' mx' : Option Value} (ha : VR e a a') (hlo : VRO e lo lo') (hhi : VRO e hi hi') (hmx : VRO e mx mx') :
    Says x e w (sliceV x t a lo hi mx) (Instr.sliceAt t a' lo' hi' mx') := by
  intro v h
  unfold sliceV at h
  split at h
  · cases mx' with
    | none => exact hmx.elim
    | some _ => exact sliceV3_ok ha hlo hhi hmx v h
  · cases mx' with
    | some _ => exact hmx.elim
    | none =>
    split at h
    · cases h
    · rename_i l hl
      split at h
      · rename_i s
        split at h
        · cases h
        · rename_i hh hhh
          split at h
          · rename_i hu
            split at h
            · rename_i h1
              split at h
              · rename_i h2
                cases h
                rw [ha.string_inv]
                refine ⟨_, ?_, .ground _ 0 rfl⟩
                have hsz : s.size = s.data.toList.length := by rw [Array.length_toList]; rfl
                have hb := sliceBounds_run (x := x) (w := w) (isS := false) (cap := s.size) hlo hhi hl (hsz ▸ hhh) (ble_iff.1 h2) (hsz ▸ ble_iff.1 h1)
                unfold Instr.sliceAt
                simp only [Sem.run_bind, run_underlying hu, Result.andThen_ok]
                unfold Instr.slice
                simp only [Sem.run_bind, run_underlying hu, Result.andThen_ok, Option.isSome_none, Bool.false_eq_true, if_false, hb, Sem.run_pure]
                congr 2
                exact BA.ext (by simp [List.take_drop])
              · cases h
            · cases h
          · cases h
      · rename_i p len k
        split at h
        · cases h
        · rename_i hh hhh
          split at h
          · cases h
          · split at h
            · rename_i elem hu
              split at h
              · rename_i n hn
                split at h
                · rename_i hnk
                  split at h
                  · rename_i h1
                    split at h
                    · rename_i h2
                      cases h
                      have hnk := beq_iff.1 hnk; subst hnk
                      have h1 := ble_iff.1 h1
                      have h2 := ble_iff.1 h2
                      obtain ⟨b, sh, off', cc, sz, hsp, hb, rfl, h4, hm, hs, hr, ho, hoff⟩ := ha.slice_inv
                      have hbd := sliceBounds_run (x := x) (w := w) (isS := true) (cap := cc) hlo hhi hl hhh h2 (by omega)
                      refine ⟨.slice (some (if cc = l then ⟨b, off', none⟩ else ⟨b, off' + l * n, none⟩)) (hh - l) (cc - l), ?_, ?_⟩
                      · unfold Instr.sliceAt
                        simp only [Sem.run_bind, run_underlying hu, Result.andThen_ok]
                        unfold Instr.slice
                        simp only [Sem.run_bind, run_underlying hu, Result.andThen_ok, hbd, sizeT_run hn, Sem.run_pure, Option.map_some, add_mk]
                        congr 2
                        split <;> rfl
                      · have hrr : off' + l * n + (cc - l) * n ≤ sz := by
                          have : l * n + (cc - l) * n = cc * n := by rw [← Nat.add_mul]; congr 1; omega
                          omega
                        by_cases hz : hh - l = 0
                        · have hz' : Nat.sub hh l = 0 := hz
                          rw [hz', hz]
                          split
                          · exact .slice0 p.block _ n (cc - l) b sh off' sz hb (by omega) hs ho (by
                              have : (cc - l) * n ≤ cc * n := Nat.mul_le_mul_right _ (by omega)
                              omega)
                          · exact .slice0 p.block _ n (cc - l) b sh (off' + l * n) sz hb (by omega) hs (by omega) hrr
                        · have hne : ¬ cc = l := by omega
                          rw [if_neg hne]
                          have hof := hoff (by omega)
                          have hv := VR.slice (e := e) p.block (Nat.add p.off (Nat.mul l n)) (hh - l) n (cc - l) b sh sz hb (by omega) (by omega) hs (by
                            have h5 : sh + Nat.add p.off (Nat.mul l n) = off' + l * n := by
                              show sh + (p.off + l * n) = _
                              omega
                            rw [h5]; exact hrr)
                          have h5 : sh + Nat.add p.off (Nat.mul l n) = off' + l * n := by
                            show sh + (p.off + l * n) = _
                            omega
                          rw [h5] at hv
                          exact hv
                    · cases h
                  · cases h
                · cases h
              · cases h
            · cases h
      · split at h
        · rename_i h0
          split at h
          · rename_i hl0
            split at h
            · rename_i elem hu
              split at h
              · rename_i n hn
                cases h
                rw [ha.slice0_inv]
                refine ⟨_, ?_, .ground _ 0 rfl⟩
                have hbd := sliceBounds_run (x := x) (w := w) (isS := true) (cap := 0) hlo hhi hl h0 (Nat.le_refl _) (Nat.le_refl _)
                unfold Instr.sliceAt
                simp only [Sem.run_bind, run_underlying hu, Result.andThen_ok]
                unfold Instr.slice
                simp only [Sem.run_bind, run_underlying hu, Result.andThen_ok, hbd, sizeT_run hn, Sem.run_pure, if_true]
              · cases h
            · cases h
          · cases h
        · cases h
      · cases h
end Go.X
/-
  Part seven: what is built; conversions and lengths.
-/
namespace Go.X
open Go
variable {x : Cx} {e : Env} {S : AS} {w : World}

theorem foldl_putL (cells : Array Value) (off : Nat) (vs : List Value) (n : Nat) :
    (vs.zipIdx n).foldl (fun cs (p : Value × Nat) => cs.setIfInBounds (off + p.2) p.1) cells = putL cells (off + n) vs := by
  induction vs generalizing cells n with
  | nil => rfl
  | cons v r ih =>
    rw [List.zipIdx_cons, List.foldl_cons, putL, ih]
    rfl
theorem putL_toList : ∀ (vs : List Value) (c : Array Value) (o : Nat), o + vs.length ≤ c.size → (putL c o vs).toList = c.toList.take o ++ (vs ++ c.toList.drop (o + vs.length)) := by
  intro vs c o h
  apply List.ext_getElem?
  intro k
  have hs := putL_size vs c o
  rcases Nat.lt_or_ge k o with h1 | h1
  · rw [List.getElem?_append_left (by simp; omega), List.getElem?_take_of_lt h1]
    have := putL_out vs c o k (.inl h1)
    simpa using this
  · rw [List.getElem?_append_right (by simp; omega)]
    simp only [List.length_take, Array.length_toList]
    rw [Nat.min_eq_left (by omega)]
    rcases Nat.lt_or_ge k (o + vs.length) with h2 | h2
    · rw [List.getElem?_append_left (by omega)]
      have := putL_in vs c o (k - o) h (by omega)
      rw [show o + (k - o) = k by omega] at this
      simpa using this
    · rw [List.getElem?_append_right (by omega), List.getElem?_drop]
      have := putL_out vs c o k (.inr h2)
      rw [show o + vs.length + (k - o - vs.length) = k by omega]
      simpa using this
/-- parts, the executor's and the model's -/
def PartsR (e : Env) (l : List (Nat × Value)) (m : List (Nat × Value)) : Prop := All2 (fun p q : Nat × Value => q.1 = p.1 ∧ VR e p.2 q.2) l m
theorem fill_ok {place : Nat → Option (Nat × Nat)} : ∀ {l m : List (Nat × Value)} {c r : List Value} {c' : Array Value}, PartsR e l m → All2 (VR e) c c'.toList → fillL place c l = some r →
    ∃ r', Instr.fill place c' m = some r' ∧ All2 (VR e) r r'.toList
  | [], [], c, r, c', _, hc, h => by simp only [fillL, Option.some.injEq] at h; subst h; exact ⟨c', rfl, hc⟩
  | [], _ :: _, _, _, _, h, _, _ => h.elim
  | _ :: _, [], _, _, _, h, _, _ => h.elim
  | (i, v) :: l, (i', v') :: m, c, r, c', hp, hc, h => by
    obtain ⟨⟨rfl, hv⟩, hp⟩ := hp
    simp only [fillL] at h
    split at h
    · cases h
    · rename_i hu
      split at h
      · cases h
      · rename_i off size hpl
        split at h
        · rename_i hs
          split at h
          · rename_i hle
            have hs := beq_iff.1 hs
            have hle : off + size ≤ c.length := ble_iff.1 hle
            have hv : VR e v v' := hv
            have hcl := hc.length
            have hvc := hv.cells hu
            rw [cellsL_eq] at h hs
            have hvl := hvc.length
            have hsz : v'.cells.size = size := by rw [← Array.length_toList]; omega
            have hcs : c'.size = c.length := by rw [← Array.length_toList]; omega
            have hfold : (v'.cells.zipIdx.foldl (fun cs (p : Value × Nat) => cs.setIfInBounds (off + p.2) p.1) c') = putL c' off v'.cells.toList := by
              rw [← Array.foldl_toList, Array.toList_zipIdx]
              have := foldl_putL c' off v'.cells.toList 0
              simpa using this
            have hnew : All2 (VR e) (c.take off ++ (v.cells.toList ++ c.drop (Nat.add off size))) (putL c' off v'.cells.toList).toList := by
              rw [putL_toList _ _ _ (by rw [Array.length_toList]; omega)]
              refine All2.append (hc.take off) (All2.append hvc ?_)
              have : off + v'.cells.toList.length = Nat.add off size := by rw [Array.length_toList, hsz]; rfl
              rw [this]; exact hc.drop _
            obtain ⟨r', h1, h2⟩ := fill_ok hp hnew h
            refine ⟨r', ?_, h2⟩
            rw [Instr.fill, hpl]
            simp only [hsz, ne_eq, not_true_eq_false, decide_false, Bool.false_or]
            rw [if_neg (by simp; omega)]
            rw [← h1, ← hfold]
          · cases h
        · cases h
theorem places_run : ∀ {l : List Field} {ps : List (Nat × Nat)}, places x l = some ps →
    (l.mapM (fun f => do pure (f.offset, ← sizeOf f.type) : Field → Sem (Nat × Nat))).run x.P w = .ok ps w
  | [], ps, h => by simp only [places, Option.some.injEq] at h; subst h; rfl
  | f :: l, ps, h => by
    simp only [places] at h
    split at h
    · rename_i n hn
      split at h
      · rename_i r hr
        cases h
        rw [List.mapM_cons]
        simp only [Sem.run_bind, sizeT_run hn, Result.andThen_ok, Sem.run_pure, places_run hr]
      · cases h
    · cases h
theorem All2.ground {c : List Value} {d : Nat} (h : ∀ v ∈ c, Go.X.ground d v = true) : All2 (VR e) c c := All2.refl fun v hv => .ground v d (h v hv)
theorem ground_unk {v : Value} {d : Nat} (h : ground d v = true) : isUnk v = false := by
  cases v <;> first | rfl | skip
  rename_i r
  cases r with
  | none => rfl
  | some r => cases d <;> simp [ground] at h
theorem zero_cells {t : TypeId} {z : Value} (h : zeroT x t = some z) : All2 (VR e) (cellsL z) z.cells.toList := by
  rw [cellsL_eq]
  exact VR.cells (.ground z 12 (zeroT_ground h)) (ground_unk (zeroT_ground h))
theorem buildV_ok {t : TypeId} {l m : List (Nat × Value)} (hp : PartsR e l m) : Says x e w (buildV x t l) (Instr.build t m.toArray) := by
  intro v h
  unfold buildV at h
  split at h
  · cases h
  · rename_i z hz
    unfold Instr.build
    simp only [Sem.run_bind, zeroT_run hz, Result.andThen_ok]
    split at h
    · rename_i fields hu
      split at h
      · rename_i ps hps
        unfold aggO at h
        split at h
        · rename_i c hc
          cases h
          obtain ⟨r', h1, h2⟩ := fill_ok (c' := z.cells) hp (zero_cells hz) hc
          have hpl : (nth ps) = (ps.toArray[·]?) := by funext i; rw [nth_eq]; simp
          rw [hpl] at h1
          refine ⟨.agg r', ?_, ?_⟩
          · have hmap : (fields.mapM (fun f => do pure (f.offset, ← sizeOf f.type) : Field → Sem (Nat × Nat))).run x.P w = .ok ps.toArray w := by
              rw [Array.mapM_eq_mapM_toList]
              simp only [Sem.run_map, places_run hps, Result.andThen_ok]
            simp only [run_underlying hu, Result.andThen_ok, Sem.run_bind, hmap, h1, Sem.run_pure]
          · have := VR.mkAgg h2; simpa using this
        · cases h
      · cases h
    · rename_i n elem hu
      split at h
      · rename_i sz hsz
        unfold aggO at h
        split at h
        · rename_i c hc
          cases h
          obtain ⟨r', h1, h2⟩ := fill_ok (c' := z.cells) hp (zero_cells hz) hc
          refine ⟨.agg r', ?_, ?_⟩
          · simp only [run_underlying hu, Result.andThen_ok, Sem.run_bind, sizeT_run hsz]
            have h1' : Instr.fill (fun i => some (i * sz, sz)) z.cells m = some r' := h1
            simp only [h1', Sem.run_pure]
          · have := VR.mkAgg h2; simpa using this
        · cases h
      · cases h
    · cases h
end Go.X
