import Derived.Test.YtofffmieimggmaaGreatDoorXOp7
/-
  Part eleven: make, maps turned, copy, clear, bytes and strings.
-/
namespace Go.X
open Go
variable {x : Cx} {e : Env} {S : AS} {w : World}

theorem makeSliceV_ok (h : Rel x e S w) {t : TypeId} {l c l' c' : Value} (hl : VR e l l') (hc : VR e c c') : Does x e S w (makeSliceV x t l c S) (Instr.makeSlice t l' c') := by
  intro v S1 hv
  unfold makeSliceV at hv
  split at hv
  · cases hv
  · rename_i ln hln
    obtain ⟨k1, rfl⟩ := hl.nat_inv hln
    split at hv
    · cases hv
    · rename_i cn hcn
      obtain ⟨k2, rfl⟩ := hc.nat_inv hcn
      split at hv
      · rename_i elem hu
        split at hv
        · rename_i info hi
          split at hv
          · rename_i z hz
            split at hv
            · rename_i hzn
              split at hv
              · rename_i hlc
                split at hv
                · rename_i hb
                  cases hv
                  have hzn := beq_iff.1 hzn
                  have hlc := ble_iff.1 hlc
                  have hb : cn + info.bytes ≤ 65536 := ble_iff.1 hb
                  have hrow := zero_row (len := cn) hz hzn
                  have hsz : (times cn (cellsL z)).length = cn * info.size := by rw [times_length, hzn]
                  obtain ⟨e1, _, h3, h4, h5⟩ := new_row h (el := elem) (wh := true)
                    (c := (Array.range (cn * info.size)).map (fun i => (if cn * info.size = 0 then (#[] : Array Value) else z.cells)[i % (if cn * info.size = 0 then (#[] : Array Value) else z.cells).size]!))
                    (l := times cn (cellsL z)) (all2_row (by rw [hrow]; exact times_ground cn (zero_self hz))) (by rw [hsz]; simp) (fun _ => by rw [hsz]; simp) (0, 0) (thawed_none _)
                  refine ⟨.slice (some ⟨w.heap.size, 0, none⟩) ln cn, e1, _, ?_, h3, here_slice h4 h5 hlc (by simp only [maxLen]; omega) (by simp)⟩
                  have hw1 : IntKind.i64.wrap (Int.ofNat ln) = Int.ofNat ln := wrap_small .i64 ln (by simp only [lim]; omega)
                  have hw2 : IntKind.i64.wrap (Int.ofNat cn) = Int.ofNat cn := wrap_small .i64 cn (by simp only [lim]; omega)
                  have hmul : info.bytes * cn ≤ 65536 * 65536 := Nat.mul_le_mul (by omega) (by omega)
                  have hcond : ¬ ((decide ((Int.ofNat cn) < 0) || decide ((info.bytes : Int) * Int.ofNat cn > 2 ^ 48)) = true ∨ decide ((Int.ofNat ln) < 0) = true ∨ decide (Int.ofNat ln > Int.ofNat cn) = true) := by
                    have e1 : (info.bytes : Int) * Int.ofNat cn = ((info.bytes * cn : Nat) : Int) := by simp
                    rw [e1]
                    simp
                    omega
                  unfold Instr.makeSlice
                  have hti : (typeInfo elem).run x.P w = .ok info w := by simp [typeInfo, hi]
                  simp only [Sem.run_bind, run_underlying hu, Result.andThen_ok, asInt, asIntOf, Sem.run_pure, hti, hw1, hw2]
                  rw [if_neg (by simpa [Bool.or_eq_true] using hcond)]
                  have hst : sizeT x elem = some info.size := by simp [sizeT, hi]
                  simp only [Sem.run_bind, run_askRoom, Result.andThen_ok, sizeT_run hst]
                  have htn : (Int.ofNat cn).toNat = cn := rfl
                  have htl : (Int.ofNat ln).toNat = ln := rfl
                  rw [htn, htl]
                  by_cases h0 : cn * info.size = 0
                  · simp only [h0, if_true, Sem.run_bind, Sem.run_pure, Result.andThen_ok, Go.newRow, run_newObj]
                  · simp only [h0, if_false, Sem.run_bind, Sem.run_pure, Result.andThen_ok, zeroT_run hz, Go.newRow, run_newObj]
                · cases hv
              · cases hv
            · cases hv
          · cases hv
        · cases hv
      · cases hv
/-! maps -/
theorem setVal_ok {k k' v v' : Value} (hk : k' = k) (hv : VR e v v') : ∀ {i : Nat} {es es' : List MapEntry}, All2 (EntR e) es es' →
    All2 (EntR e) (setVal i es k v) (es'.modify i fun m => { m with key := k', val := v' })
  | _, [], [], _ => by simp [setVal, All2]
  | _, [], _ :: _, h => h.elim
  | _, _ :: _, [], h => h.elim
  | 0, m :: es, m' :: es', h => by
    subst hk
    exact ⟨⟨rfl, h.1.2.1, hv⟩, h.2⟩
  | i + 1, m :: es, m' :: es', h => ⟨h.1, setVal_ok hk hv h.2⟩
theorem sameBits_key {d : TypeDesc} {k k' : Value} {n : Nat} (h : sameKey d k k' = some true) : Instr.sameBits (n + 1) k' k = true := by
  unfold sameKey at h
  split at h
  · split at h
    · split at h
      · split at h
        · rename_i hk; simp only [Option.some.injEq] at h
          have := kn_inj hk; subst this
          rw [eqI_eq] at h
          have := eq_of_beq h; subst this
          simp [Instr.sameBits]
        · cases h
      · cases h
    · cases h
  · split at h
    · split at h
      · simp only [Option.some.injEq] at h
        rw [bytesEq_eq] at h
        have := BA.ext (eq_of_beq h); subst this
        simp [Instr.sameBits, bytes_beq, bytesEq_eq]
      · cases h
    · cases h
  · split at h
    · split at h
      · simp only [Option.some.injEq] at h
        have := eq_of_beq h; subst this
        simp [Instr.sameBits]
      · cases h
    · cases h
  · cases h
theorem setObj_map {b : Nat} {es' : Array MapEntry} {ck : Nat} {o : Obj} (h : w.heap[b]? = some (.map es' ck)) : (setObj b o).run x.P w = .ok () (w.putObj b o) := by
  simp [setObj, Sem.run, h, World.putObj]
theorem Stp.putMap (h : Rel x e S w) {r b sh : Nat} {es es1 : List MapEntry} {es' es1' : Array MapEntry} {ck ck1 : Nat} (hg : S.heap.get r = some (.map es ck)) (hb : e.blk r = some (b, sh))
    (hw : w.heap[b]? = some (.map es' ck)) (hes : All2 (EntR e) es1 es1'.toList) :
    Stp x e S w e { S with heap := S.heap.set r (some (.map es1 ck1)) } (w.putObj b (.map es1' ck1)) := by
  obtain ⟨b', sh', o', h1, h2, h3, h4⟩ := h.obj r _ hg
  rw [hb] at h1; cases h1
  have hsh : sh = 0 := by cases h3; rfl
  subst hsh
  have hlt : b < w.heap.size := (Array.getElem?_eq_some_iff.1 hw).1
  exact Stp.upd h hg hb hw (World.putObj_heap_same hlt) (.map es1 es1' ck1 hes) (fun c el fz hh => by cases hh) (fun k hk => World.putObj_heap_other hk) World.putObj_size ⟨rfl, rfl, rfl⟩
theorem mapUpdateV_ok (h : Rel x e S w) {t : TypeId} {m k v m' k' v' : Value} (hm : VR e m m') (hk : VR e k k') (hv : VR e v v') :
    DoesU x e S w (mapUpdateV x t m k v S) (Instr.mapUpdate t m' k' v') := by
  intro u S1 hs
  obtain ⟨n0, hn0⟩ : ∃ n, (10000 : Nat) = n + 1 := ⟨9999, rfl⟩
  unfold mapUpdateV at hs
  split at hs
  · rename_i r
    obtain ⟨b, sh, hb, rfl⟩ := hm.map_inv
    split at hs
    · rename_i es ck hg
      obtain ⟨es', hw, hes⟩ := map_obj h hb hg
      split at hs
      · rename_i key el hu
        split at hs
        · rename_i kd hkd
          split at hs
          · cases hs
          · rename_i hok
            have := keyOk_inv hok hk; subst this
            obtain ⟨hku, hkk⟩ := keyKind_ok hkd
            split at hs
            · rename_i i u1 hfe
              cases hs
              rcases findE_ok hes hfe with ⟨h1, _⟩ | ⟨j, u2, u', h1, h2, h3, _, h5, m2, h6, h7⟩
              · cases h1
              · cases h1
                refine ⟨rfl, e, w.putObj b (.map (es'.modify i fun m => { m with key := k', val := v' }) ck), ?_, Stp.putMap h hg hb hw ?_⟩
                · obtain ⟨m3, h8, h9⟩ := hes.get h6
                  have h8' : es'[i]? = some m3 := by simpa using h8
                  have hsb : Instr.sameBits 10000 m3.key k' = true := by rw [h9.1, hn0]; exact sameBits_key h7
                  unfold Instr.mapUpdate
                  rw [Sem.run_bind, run_underlying hu, Result.andThen_ok]
                  simp only [Sem.run_bind, getObj_map hw, Result.andThen_ok]
                  rw [hn0, checkKey_run hku hkk]
                  simp only [Result.andThen_ok, Instr.findKey, Sem.run_bind, run_underlying hku, h2, Sem.run_pure]
                  simp only [h8', Option.map_some, Option.getD_some, Instr.keyThatStays, hsb, if_true, Sem.run_pure, Result.andThen_ok, setObj_map hw]
                · have := setVal_ok (e := e) (k := k') (k' := k') rfl hv (i := i) hes
                  rw [Array.toList_modify]; exact this
            · rename_i hfe
              cases hs
              rcases findE_ok hes hfe with ⟨_, h2⟩ | ⟨j, u2, u', h1, _⟩
              · refine ⟨rfl, e, w.putObj b (.map (es'.push { key := k', val := v', born := ck }) (ck + 1)), ?_, Stp.putMap h hg hb hw ?_⟩
                · unfold Instr.mapUpdate
                  rw [Sem.run_bind, run_underlying hu, Result.andThen_ok]
                  simp only [Sem.run_bind, getObj_map hw, Result.andThen_ok]
                  rw [hn0, checkKey_run hku hkk]
                  simp only [Result.andThen_ok, Instr.findKey, Sem.run_bind, run_underlying hku, h2, Sem.run_pure]
                  simp only [setObj_map hw]
                · rw [Array.toList_push]
                  exact All2.append hes ⟨⟨rfl, rfl, hv⟩, trivial⟩
              · cases h1
            · cases hs
        · cases hs
      · cases hs
    · cases hs
  · cases hs
end Go.X
