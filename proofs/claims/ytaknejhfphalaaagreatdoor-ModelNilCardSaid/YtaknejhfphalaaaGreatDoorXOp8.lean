import Derived.Test.YtaknejhfphalaaaGreatDoorXOp6
/-
  Part eleven: make, maps turned, copy, clear, bytes and strings.
-/
namespace Go.X
open Go
variable {x : Cx} {e : Env} {S : AS} {w : World}

theorem makeSliceV_ok (h : Rel x e S w) {t : TypeId} {l c l' c' : Value} (hl : VR e l l') (hc : VR e c c') : Does x e S w (makeSliceV x t l c S) (Instr.makeSlice t l' c') := by
  intro v S1 hv
  unfold makeSliceV at hv
  split at hv
  · cases hv
  · rename_i ln hln
    obtain ⟨k1, rfl⟩ := hl.nat_inv hln
    split at hv
    · cases hv
    · rename_i cn hcn
      obtain ⟨k2, rfl⟩ := hc.nat_inv hcn
      split at hv
      · rename_i elem hu
        split at hv
        · rename_i info hi
          split at hv
          · rename_i z hz
            split at hv
            · rename_i hzn
              split at hv
              · rename_i hlc
                split at hv
                · rename_i hb
                  cases hv
                  have hzn := beq_iff.1 hzn
                  have hlc := ble_iff.1 hlc
                  have hb : cn + info.bytes ≤ 65536 := ble_iff.1 hb
                  have hrow := zero_row (len := cn) hz hzn
                  have hsz : (times cn (cellsL z)).length = cn * info.size := by rw [times_length, hzn]
                  obtain ⟨e1, _, h3, h4, h5⟩ := new_row h (el := elem) (wh := true)
                    (c := (Array.range (cn * info.size)).map (fun i => (if cn * info.size = 0 then (#[] : Array Value) else z.cells)[i % (if cn * info.size = 0 then (#[] : Array Value) else z.cells).size]!))
                    (l := times cn (cellsL z)) (all2_row (by rw [hrow]; exact times_ground cn (zero_self hz))) (by rw [hsz]; simp) (fun _ => by rw [hsz]; simp) (0, 0) (thawed_none _)
                  refine ⟨.slice (some ⟨w.heap.size, 0, none⟩) ln cn, e1, _, ?_, h3, here_slice h4 h5 hlc (by simp only [maxLen]; omega) (by simp)⟩
                  have hw1 : IntKind.i64.wrap (Int.ofNat ln) = Int.ofNat ln := wrap_small .i64 ln (by simp only [lim]; omega)
                  have hw2 : IntKind.i64.wrap (Int.ofNat cn) = Int.ofNat cn := wrap_small .i64 cn (by simp only [lim]; omega)
                  have hmul : info.bytes * cn ≤ 65536 * 65536 := Nat.mul_le_mul (by omega) (by omega)
                  have hcond : ¬ ((decide ((Int.ofNat cn) < 0) || decide ((info.bytes : Int) * Int.ofNat cn > 2 ^ 48)) = true ∨ decide ((Int.ofNat ln) < 0) = true ∨ decide (Int.ofNat ln > Int.ofNat cn) = true) := by
                    have e1 : (info.bytes : Int) * Int.ofNat cn = ((info.bytes * cn : Nat) : Int) := by simp
                    rw [e1]
                    simp
                    omega
                  unfold Instr.makeSlice
                  have hti : (typeInfo elem).run x.P w = .ok info w := by simp [typeInfo, hi]
                  simp only [Sem.run_bind, run_underlying hu, Result.andThen_ok, asInt, asIntOf, Sem.run_pure, hti, hw1, hw2]
                  rw [if_neg (by simpa [Bool.or_eq_true] using hcond)]
                  have hst : sizeT x elem = some info.size := by simp [sizeT, hi]
                  simp only [Sem.run_bind, run_askRoom, Result.andThen_ok, sizeT_run hst]
                  have htn : (Int.ofNat cn).toNat = cn := rfl
                  have htl : (Int.ofNat ln).toNat = ln := rfl
                  rw [htn, htl]
                  by_cases h0 : cn * info.size = 0
                  · simp only [h0, if_true, Sem.run_bind, Sem.run_pure, Result.andThen_ok, Go.newRow, run_newObj]
                  · simp only [h0, if_false, Sem.run_bind, Sem.run_pure, Result.andThen_ok, zeroT_run hz, Go.newRow, run_newObj]
                · cases hv
              · cases hv
            · cases hv
          · cases hv
        · cases hv
      · cases hv
/-! maps -/
theorem setVal_ok {k k' v v' : Value} (hk : k' = k) (hv : VR e v v') : ∀ {i : Nat} {es es' : List MapEntry}, All2 (EntR e) es es' →
    All2 (EntR e) (setVal i es k v) (es'.modify i fun m => { m with key := k', val := v' })
  | _, [], [], _ => by simp [setVal, All2]
  | _, [], _ :: _, h => h.elim
  | _, _ :: _, [], h => h.elim
  | 0, m :: es, m' :: es', h => by
    subst hk
    exact ⟨⟨rfl, h.1.2.1, hv⟩, h.2⟩
  | i + 1, m :: es, m' :: es', h => ⟨h.1, setVal_ok hk hv h.2⟩
theorem sameBits_key {d : TypeDesc} {k k' : Value} {n : Nat} (h : sameKey d k k' = some true) : Instr.sameBits (n + 1) k' k = true := by
  unfold sameKey at h
  split at h
  · split at h
    · split at h
      · split at h
        · rename_i hk; simp only [Option.some.injEq] at h
          have := kn_inj hk; subst this
          rw [eqI_eq] at h
          have := eq_of_beq h; subst this
          simp [Instr.sameBits]
        · cases h
      · cases h
    · cases h
  · split at h
    · split at h
      · simp only [Option.some.injEq] at h
        rw [bytesEq_eq] at h
        have := BA.ext (eq_of_beq h); subst this
        simp [Instr.sameBits, bytes_beq, bytesEq_eq]
      · cases h
    · cases h
  · split at h
    · split at h
      · simp only [Option.some.injEq] at h
        have := eq_of_beq h; subst this
        simp [Instr.sameBits]
      · cases h
    · cases h
  · cases h
theorem setObj_map {b : Nat} {es' : Array MapEntry} {ck : Nat} {o : Obj} (h : w.heap[b]? = some (.map es' ck)) : (setObj b o).run x.P w = .ok () (w.putObj b o) := by
  simp [setObj, Sem.run, h, World.putObj]
theorem Stp.putMap (h : Rel x e S w) {r b sh : Nat} {es es1 : List MapEntry} {es' es1' : Array MapEntry} {ck ck1 : Nat} (hg : S.heap.get r = some (.map es ck)) (hb : e.blk r = some (b, sh))
    (hw : w.heap[b]? = some (.map es' ck)) (hes : All2 (EntR e) es1 es1'.toList) :
    Stp x e S w e { S with heap := S.heap.set r (some (.map es1 ck1)) } (w.putObj b (.map es1' ck1)) := by
  obtain ⟨b', sh', o', h1, h2, h3, h4⟩ := h.obj r _ hg
  rw [hb] at h1; cases h1
  have hsh : sh = 0 := by cases h3; rfl
  subst hsh
  have hlt : b < w.heap.size := (Array.getElem?_eq_some_iff.1 hw).1
  exact Stp.upd h hg hb hw (World.putObj_heap_same hlt) (.map es1 es1' ck1 hes) (fun c el fz hh => by cases hh) (fun k hk => World.putObj_heap_other hk) World.putObj_size ⟨rfl, rfl, rfl⟩
theorem mapUpdateV_ok (h : Rel x e S w) {t : TypeId} {m k v m' k' v' : Value} (hm : VR e m m') (hk : VR e k k') (hv : VR e v v') :
    DoesU x e S w (mapUpdateV x t m k v S) (Instr.mapUpdate t m' k' v') := by
  intro u S1 hs
  obtain ⟨n0, hn0⟩ : ∃ n, (10000 : Nat) = n + 1 := ⟨9999, rfl⟩
  unfold mapUpdateV at hs
  split at hs
  · rename_i r
    obtain ⟨b, sh, hb, rfl⟩ := hm.map_inv
    split at hs
    · rename_i es ck hg
      obtain ⟨es', hw, hes⟩ := map_obj h hb hg
      split at hs
      · rename_i key el hu
        split at hs
        · rename_i kd hkd
          split at hs
          · cases hs
          · rename_i hok
            have := keyOk_inv hok hk; subst this
            obtain ⟨hku, hkk⟩ := keyKind_ok hkd
            split at hs
            · rename_i i u1 hfe
              cases hs
              rcases findE_ok hes hfe with ⟨h1, _⟩ | ⟨j, u2, u', h1, h2, h3, _, h5, m2, h6, h7⟩
              · cases h1
              · cases h1
                refine ⟨rfl, e, w.putObj b (.map (es'.modify i fun m => { m with key := k', val := v' }) ck), ?_, Stp.putMap h hg hb hw ?_⟩
                · obtain ⟨m3, h8, h9⟩ := hes.get h6
                  have h8' : es'[i]? = some m3 := by simpa using h8
                  have hsb : Instr.sameBits 10000 m3.key k' = true := by rw [h9.1, hn0]; exact sameBits_key h7
                  unfold Instr.mapUpdate
                  rw [Sem.run_bind, run_underlying hu, Result.andThen_ok]
                  simp only [Sem.run_bind, getObj_map hw, Result.andThen_ok]
                  rw [hn0, checkKey_run hku hkk]
                  simp only [Result.andThen_ok, Instr.findKey, Sem.run_bind, run_underlying hku, h2, Sem.run_pure]
                  simp only [h8', Option.map_some, Option.getD_some, Instr.keyThatStays, hsb, if_true, Sem.run_pure, Result.andThen_ok, setObj_map hw]
                · have := setVal_ok (e := e) (k := k') (k' := k') rfl hv (i := i) hes
                  rw [Array.toList_modify]; exact this
            · rename_i hfe
              cases hs
              rcases findE_ok hes hfe with ⟨_, h2⟩ | ⟨j, u2, u', h1, _⟩
              · refine ⟨rfl, e, w.putObj b (.map (es'.push { key := k', val := v', born := ck }) (ck + 1)), ?_, Stp.putMap h hg hb hw ?_⟩
                · unfold Instr.mapUpdate
                  rw [Sem.run_bind, run_underlying hu, Result.andThen_ok]
                  simp only [Sem.run_bind, getObj_map hw, Result.andThen_ok]
                  rw [hn0, checkKey_run hku hkk]
                  simp only [Result.andThen_ok, Instr.findKey, Sem.run_bind, run_underlying hku, h2, Sem.run_pure]
                  simp only [setObj_map hw]
                · rw [Array.toList_push]
                  exact All2.append hes ⟨⟨rfl, rfl, hv⟩, trivial⟩
              · cases h1
            · cases hs
        · cases hs
      · cases hs
    · cases hs
  · cases hs
end Go.X
/-
  Part twelve: copy, clear, bytes and strings, append.
-/
namespace Go.X
open Go
variable {x : Cx} {e : Env} {S : AS} {w : World}

theorem bytesV_eq : ∀ (l : List UInt8), bytesV l = l.map fun b => Value.int .u8 b.toNat
  | [] => rfl
  | b :: l => by rw [bytesV, bytesV_eq l]; rfl
theorem bytesV_self (l : List UInt8) : All2 (VR e) (bytesV l) (bytesV l) := All2.refl fun v hv => by
  rw [bytesV_eq] at hv
  obtain ⟨b, _, rfl⟩ := List.mem_map.1 hv
  exact .int _ _
theorem lenV_run {v v' : Value} {n : Nat} (h : VR e v v') (hl : lenV v = some n) : (Builtin.lenOf v').run x.P w = .ok n w := by
  unfold lenV at hl
  split at hl
  · rename_i a n c
    cases hl
    cases a with
    | none => rw [h.slice0_inv]; rfl
    | some a => obtain ⟨b, sh, o, cc, sz, _, _, rfl, _⟩ := h.slice_inv; rfl
  · rename_i s
    cases hl
    rw [h.string_inv]
    simp only [Builtin.lenOf, Sem.run_pure]
    rw [Array.length_toList]; rfl
  · cases hl
/-- the first cells of what is read -/
theorem firstCellsV_ok (h : Rel x e S w) {size n : Nat} {v v' : Value} {c : List Value} (hv : VR e v v') (hr : firstCellsV x S size n v = some c) (hn : ∀ m, lenV v = some m → n ≤ m) :
    ∃ c', All2 (VR e) c c'.toList ∧ ∀ w1 : World, (∀ b, b < w.heap.size → w1.heap[b]? = w.heap[b]?) → (Builtin.firstCells size n v').run x.P w1 = .ok c' w1 := by
  unfold firstCellsV at hr
  split at hr
  · rename_i a n1 k
    have hle := hn n1 rfl
    split at hr
    · obtain ⟨b, sh, o, cc, sz, _, hb, rfl, h4, _, hs, hr', ho, hoff⟩ := hv.slice_inv
      obtain ⟨l', h1, h2, h3⟩ := readCells_ok h hb hr
      refine ⟨l'.toArray, by simpa using h2, fun w1 hw1 => ?_⟩
      have hbl : b < w.heap.size := h.bnd _ _ _ hb
      have hcell : ∀ q, w1.cell? ⟨b, q, none⟩ = w.cell? ⟨b, q, none⟩ := fun q => by simp only [World.cell?, hw1 b hbl]
      by_cases h0 : n * size = 0
      · have hl' : l' = [] := List.eq_nil_of_length_eq_zero (by rw [h1]; exact h0)
        subst hl'
        have := run_loadCells_list (P := x.P) w1 ⟨b, o, none⟩ [] (fun j v hj => by simp at hj)
        simp only [Builtin.firstCells, h0]
        exact this
      · have hn1 : 0 < n1 := by
          rcases Nat.eq_zero_or_pos n1 with hz | hz
          · have : n = 0 := by omega
            exact absurd (by rw [this, Nat.zero_mul]) h0
          · exact hz
        have := hoff hn1; subst this
        have := run_loadCells_list (P := x.P) w1 ⟨b, sh + a.off, none⟩ l' (fun j v hj => by rw [add_mk, hcell]; exact h3 j v hj)
        rw [h1] at this
        exact this
    · cases hr
  · split at hr
    · cases hr
      rw [hv.slice0_inv]
      exact ⟨#[], trivial, fun w1 _ => rfl⟩
    · cases hr
  · rename_i s
    cases hr
    rw [hv.string_inv]
    refine ⟨(bytesV (s.data.toList.take n)).toArray, by simpa using bytesV_self _, fun w1 _ => ?_⟩
    simp only [Builtin.firstCells, Sem.run_pure]
    congr 1
    apply Array.ext'
    have hle := hn _ rfl
    rw [bytesV_eq]
    simp [ByteArray.data_extract]
  · cases hr
theorem clearV_ok (h : Rel x e S w) {t : TypeId} {v v' : Value} {ty : TypeId} (hv : VR e v v') : Does x e S w (clearV x t v S) (Builtin.clear_ #[t] ty #[v']) := by
  intro u S1 hs
  unfold clearV at hs
  split at hs
  · rename_i a n k
    obtain ⟨b, sh, o, cc, sz, hsp, hb, rfl, h4, _, hs', hr', ho, hoff⟩ := hv.slice_inv
    split at hs
    · split at hs
      · rename_i el hu
        cases hs
        refine ⟨_, e, w, ?_, .refl h, .undef⟩
        unfold Builtin.clear_
        simp only [List.getElem?_toArray, List.getElem?_cons_zero, Sem.run_bind, run_underlying hu, Result.andThen_ok, Sem.run_pure]
        rfl
      · cases hs
    · rename_i n1
      split at hs
      · rename_i el hu
        split at hs
        · rename_i z hz
          split at hs
          · cases hs
          · split at hs
            · rename_i S2 hS
              cases hs
              have hz1 := zero_self (e := e) hz
              have := hoff (by omega); subst this
              obtain ⟨h1, h2⟩ := putCells_ok h hb (times_ground (n1 + 1) hz1) hS
              refine ⟨_, e, _, ?_, h2, .undef⟩
              have hzc : (Builtin.zeroCells z.cells (n1 + 1)).toList = times (n1 + 1) (cellsL z) := by
                unfold Builtin.zeroCells
                rw [cellsL_eq]
                rcases Nat.eq_zero_or_pos z.cells.size with h0 | h0
                · have hn : z.cells.toList = [] := List.eq_nil_of_length_eq_zero (by rw [Array.length_toList]; exact h0)
                  rw [hn, times_nil, h0]; simp
                · simp only [Array.toList_map, Array.toList_range]
                  exact range_times z.cells h0 (n1 + 1)
              unfold Builtin.clear_
              simp only [List.getElem?_toArray, List.getElem?_cons_zero, Sem.run_bind, run_underlying hu, Result.andThen_ok, zeroT_run hz, hzc, h1, Sem.run_pure]
              rfl
            · cases hs
        · cases hs
      · cases hs
  · cases hs
theorem copyV_ok (h : Rel x e S w) {t : TypeId} {ts : List TypeId} {d y d' y' : Value} {ty : TypeId} (hd : VR e d d') (hy : VR e y y') :
    Does x e S w (copyV x t d y S) (Builtin.copy_ (t :: ts).toArray ty #[d', y']) := by
  intro u S1 hs
  unfold copyV at hs
  split at hs
  · rename_i a dn dk
    split at hs
    · rename_i el hu
      split at hs
      · cases hs
      · rename_i yn hyn
        split at hs
        · cases hs
        · rename_i k hk
          split at hs
          · cases hs
          · rename_i c hc
            obtain ⟨c', h1, h2⟩ := firstCellsV_ok h hy hc (fun m hm => by rw [hyn] at hm; cases hm; exact Nat.min_le_left _ _)
            have h2 := h2 w (fun _ _ => rfl)
            have hrun : ∀ (base : Option Addr) (cc : Nat), (Builtin.copy_ (t :: ts).toArray ty #[.slice base dn cc, y']).run x.P w =
                ((match base with | some a => storeCells a c'.toList | none => pure () : Sem Unit).run x.P w).andThen (fun _ w1 => .ok (goNat (Nat.min yn dn)) w1) := fun base cc => by
              unfold Builtin.copy_
              simp only [List.getElem?_toArray, List.getElem?_cons_zero, List.getElem?_cons_succ, Sem.run_bind, run_underlying hu, Result.andThen_ok, lenV_run hy hyn, sizeT_run hk, h2]
              cases base with
              | none => rfl
              | some a => simp only [Sem.run_bind]; rfl
            split at hs
            · cases hs
              rw [hd.slice0_inv]
              exact ⟨_, e, w, by rw [hrun]; rfl, .refl h, .int _ _⟩
            · obtain ⟨b, sh, o, cc, sz, hsp, hb, rfl, h4, _, hs', hr', ho, hoff⟩ := hd.slice_inv
              split at hs
              · cases hs
                have hc' : c'.toList = [] := List.eq_nil_of_length_eq_zero (by rw [← h1.length]; rfl)
                exact ⟨_, e, w, by rw [hrun, hc']; rfl, .refl h, .int _ _⟩
              · split at hs
                · cases hs
                · split at hs
                  · cases hs
                  · split at hs
                    · rename_i S2 hS
                      cases hs
                      have := hoff (by omega); subst this
                      obtain ⟨h5, h6⟩ := putCells_ok h hb h1 hS
                      refine ⟨_, e, _, ?_, h6, .int _ _⟩
                      rw [hrun]
                      show ((storeCells _ c'.toList).run x.P w).andThen _ = _
                      rw [h5]; rfl
                    · cases hs
    · cases hs
  · cases hs
noncomputable def madeCells (s : ByteArray) (cap : Nat) : Array Value := s.data.map (fun b : UInt8 => Value.int .u8 (b.toNat : Int)) ++ Array.replicate (cap - s.size) (Value.int .u8 0)
/-- bytes of a string -/
theorem bytesMade_ok (h : Rel x e S w) {el : TypeId} {s : ByteArray} (hl : s.data.toList.length ≤ 65536) : Does x e S w (bytesMade el s S) (Conv.stringToBytes el s) := by
  intro v S1 hv
  cases hv
  have hsz : s.size = s.data.toList.length := by rw [Array.length_toList]; rfl
  have hge : s.size ≤ (Question.appendCap s.size 0 el).cut (w.tape w.drawn (.appendCap s.size 0 el)) := by simp [Question.cut]
  have hmax : (Question.appendCap s.size 0 el).cut (w.tape w.drawn (.appendCap s.size 0 el)) ≤ maxLen := by
    have := Nat.mod_lt (w.tape w.drawn (.appendCap s.size 0 el)) (show 0 < 2 ^ 63 - s.size by omega)
    simp only [Question.cut, maxLen]
    omega
  generalize hcap : (Question.appendCap s.size 0 el).cut (w.tape w.drawn (.appendCap s.size 0 el)) = cap at hge hmax
  have hd : Rel x e S { w with drawn := w.drawn + 1 } := h.drew
  have hcs : (madeCells s cap).size = cap := by
    simp only [madeCells, Array.size_append, Array.size_map, Array.size_replicate]
    have : s.data.size = s.size := rfl
    omega
  have hget : ∀ (k : Nat) (v : Value), (bytesV s.data.toList)[k]? = some v → ∃ v', (madeCells s cap)[k]? = some v' ∧ VR e v v' := fun k v hk => by
    rw [bytesV_eq] at hk
    have hk1 : k < s.data.size := by
      have := (List.getElem?_eq_some_iff.1 hk).1
      rw [List.length_map, Array.length_toList] at this; exact this
    refine ⟨v, ?_, ?_⟩
    · unfold madeCells
      rw [Array.getElem?_append_left (by simpa using hk1)]
      simpa using hk
    · rw [List.getElem?_map, Option.map_eq_some_iff] at hk
      obtain ⟨b, _, rfl⟩ := hk
      exact .int _ _
  obtain ⟨e1, _, h3, h4, h5⟩ := new_row hd (el := el) (wh := false) hget (by rw [hcs, bytesV_eq]; simp; have : s.data.size = s.size := rfl; omega) (fun hh => by cases hh) (cap, cap + 1) (fun o ho hh => by
    rw [hcs] at ho; have := hh.1; simp at this; omega)
  refine ⟨.slice (some ⟨w.heap.size, 0, none⟩) s.size cap, e1, _, ?_, (Stp.drew h).trans h3, ?_⟩
  · unfold Conv.stringToBytes
    simp only [Sem.run_bind, run_choose, Question.forced, Bool.false_eq_true, if_false, Result.andThen_ok, hcap, Go.newRow, run_newObj, Sem.run_pure, markStringish, run_shape]
    change (Result.andThen (Sem.run x.P (match World.shape? { heap := w.heap.push (.cells (madeCells s cap) el), tape := w.tape, drawn := w.drawn + 1, os := w.os, output := w.output } w.heap.size with | some (_, n) => freeze { block := w.heap.size, off := n } 1 | _ => pure ()) _) _) = _
    have hshp : (World.shape? { heap := w.heap.push (.cells (madeCells s cap) el), tape := w.tape, drawn := w.drawn + 1, os := w.os, output := w.output } w.heap.size) = some (el, cap) := by
      simp only [World.shape?, Array.getElem?_push_size, hcs]
    rw [hshp]
    simp only [run_freeze, Result.andThen_ok]
    congr 1
    simp only [World.freeze, Nat.one_ne_zero, if_false]
    congr 1
    apply Array.ext_getElem?
    intro k
    rw [Array.getElem?_modify]
    by_cases hk : w.heap.size = k
    · subst hk
      simp
      rfl
    · rw [if_neg hk, Array.getElem?_push, Array.getElem?_push, if_neg (fun hh => hk hh.symm), if_neg (fun hh => hk hh.symm)]
  · rw [← hsz]
    exact here_slice h4 h5 hge hmax (by rw [hcs]; omega)
/-- unsafe.String: the block is given up -/
theorem unsafeStrV_ok (h : Rel x e S w) {t : TypeId} {p l p' l' : Value} {ts : List TypeId} {ty : TypeId} (hp : VR e p p') (hl : VR e l l') :
    Does x e S w (unsafeStrV x t p l S) (Builtin.unsafeString_ (t :: ts).toArray ty #[p', l']) := by
  intro v S1 hv
  unfold unsafeStrV at hv
  split at hv
  · rename_i a
    split at hv
    · rename_i n hn
      obtain ⟨k, rfl⟩ := hl.nat_inv hn
      split at hv
      · rename_i hle
        split at hv
        · rename_i c el wh hg
          split at hv
          · rename_i ee hu
            split at hv
            · rename_i hel
              split at hv
              · rename_i hone
                split at hv
                · rename_i bs hbs
                  cases hv
                  have hel := beq_iff.1 hel
                  subst hel
                  have hle := ble_iff.1 hle
                  obtain ⟨b, sh, hb, hsp, rfl⟩ := hp.ptr_inv
                  obtain ⟨hlen, hcell⟩ := bytesAt_ok h hb hbs
                  obtain ⟨b', sh', o', h1, h2, h3, h4⟩ := h.obj _ _ hg
                  rw [hb] at h1; cases h1
                  cases h3 with
                  | cells _ _ _ c' fz _ hc hf hw hz =>
                  have hco : x.P.cellsOf el = 1 := by
                    unfold sizeT at hone
                    cases hq : x.P.info? el with
                    | none => simp [hq] at hone
                    | some i => simp [hq] at hone; simp [Program.cellsOf, hq, hone]
                  have hsz : sh + a.off + (n + 1) ≤ c'.size := by
                    have hx : ∃ y, bs[n]? = some y := ⟨_, List.getElem?_eq_getElem (by omega)⟩
                    obtain ⟨y, hy⟩ := hx
                    have := hcell n y hy
                    rw [cell_of h2] at this
                    have := (Array.getElem?_eq_some_iff.1 this).1
                    omega
                  have hlies : liesAt x.P x.P.depth el (c'.size / x.P.cellsOf el) (sh + a.off) el (n + 1) = true := by
                    have hd : x.P.depth = (2 * (x.P.types.size + Made.depth) + 1) + 1 := rfl
                    rw [hd]
                    simp only [liesAt, Bool.or_eq_true]
                    left
                    rw [hd]
                    simp [rowAt, hco, sameLayout]
                    left
                    omega
                  have hload := Go.Lib.run_loadBytes (P := x.P) w bs ⟨b, sh + a.off, none⟩ .empty (fun j y hy => by rw [add_mk]; exact hcell j y hy)
                  rw [hlen] at hload
                  have hvar : (variablesAt ⟨b, sh + a.off, none⟩ el (n + 1)).run x.P w = .ok true w := by
                    simp [variablesAt, World.shape?, h2, hlies]
                  have hblt : b < w.heap.size := h.bnd _ _ _ hb
                  refine ⟨.string ⟨bs.toArray⟩, e, w.freeze ⟨b, sh + a.off, none⟩ (n + 1), ?_, ?_, .string _⟩
                  · have hdef : Builtin.unsafeString_ (t :: ts).toArray ty #[.pointer (some ⟨b, sh + a.off, none⟩), .int k (.ofNat (n + 1))] =
                        (do
                          let m ← asInt (.int k (.ofNat (n + 1)))
                          if m < 0 then runtimePanic (.error "unsafe.String: len out of range")
                          if m > IntKind.i64.max then unsupported (.unsafePointer "String: a length above the largest int")
                          if m = 0 then pure (.string .empty)
                          else if ← variablesAt ⟨b, sh + a.off, none⟩ (← elemOf t) m.toNat then do
                            let s ← loadBytes ⟨b, sh + a.off, none⟩ .empty m.toNat
                            freeze ⟨b, sh + a.off, none⟩ m.toNat
                            pure (.string s)
                          else unsupported (.unsafePointer "String: not so many bytes at ptr")) := rfl
                    rw [hdef]
                    have hmax : IntKind.i64.max = 9223372036854775807 := rfl
                    have hi0 : (Int.ofNat (n + 1)) = ((n + 1 : Nat) : Int) := rfl
                    have hneg : ¬ (Int.ofNat (n + 1)) < 0 := by rw [hi0]; omega
                    have hbig : ¬ (Int.ofNat (n + 1)) > IntKind.i64.max := by rw [hi0, hmax]; omega
                    have hnz : ¬ (Int.ofNat (n + 1)) = 0 := by rw [hi0]; omega
                    have htn : (Int.ofNat (n + 1)).toNat = n + 1 := rfl
                    simp only [Sem.run_bind, asInt, asIntOf, Sem.run_pure, Result.andThen_ok, hneg, if_false, hbig, hnz, elemOf, run_underlying hu, htn, hvar, if_true, hload, run_freeze]
                    congr 2
                    apply BA.ext
                    simp
                  · refine Stp.drop h hg hb ?_ ?_ ?_ ?_
                    · intro c1 el1 fz1 hcc
                      rw [h2] at hcc; cases hcc
                      refine ⟨c', el, ?_⟩
                      simp only [World.freeze, Nat.add_one_ne_zero, if_false, Array.getElem?_modify, if_true, h2, Option.map_some]
                      exact ⟨_, rfl, trivial⟩
                    · intro k hk
                      simp only [World.freeze, Nat.add_one_ne_zero, if_false, Array.getElem?_modify]
                      rw [if_neg (fun hh => hk hh.symm)]
                    · simp [World.freeze]
                    · simp [World.freeze]
                · cases hv
              · cases hv
            · cases hv
          · cases hv
        · cases hv
      · cases hv
    · cases hv
  · cases hv
end Go.X
