import Derived.Test.YtaknejhfphalaaaGreatDoorXOp8
/-
  Part thirteen: append.
-/
namespace Go.X
open Go
variable {x : Cx} {e : Env} {S : AS} {w : World}

/-- append with room, or with nothing to append -/
theorem append_room_run {t u elem ty : TypeId} {d : TypeDesc} {info : TypeInfo} {base : Option Addr} {n cc m : Nat} {y' : Value} {new : Array Value}
    (ht : x.P.underlying t = some (.slice elem)) (hu : x.P.underlying u = some d) (hd : ∀ k, d ≠ .int k) (hi : x.P.info? elem = some info)
    (hn : (Builtin.lenOf y').run x.P w = .ok m w) (hc : (Builtin.firstCells info.size m y').run x.P w = .ok new w) (hroom : n + m ≤ cc) :
    (Builtin.append_ #[t, u] ty #[.slice base n cc, y']).run x.P w =
      ((match base with | some a => storeCells (a.add (n * info.size)) new.toList | none => pure () : Sem Unit).run x.P w).andThen fun _ w1 => .ok (.slice base (n + m) cc) w1 := by
  unfold Builtin.append_
  simp only [List.getElem?_toArray, List.getElem?_cons_zero, List.getElem?_cons_succ, Sem.run_bind, run_underlying ht, Result.andThen_ok, sizeOf, typeInfo, run_program, hi, Sem.run_pure, run_underlying hu,
    Bool.false_eq_true, if_false, hn, hroom, if_true, Bool.not_false, hc]
  cases base with
  | none => rfl
  | some a => simp only [Sem.run_bind]; rfl
/-- append without room -/
theorem append_grow_run {t u elem ty : TypeId} {d : TypeDesc} {info : TypeInfo} {z : Value} {base : Option Addr} {n cc m : Nat} {y' : Value} {old new : Array Value}
    (ht : x.P.underlying t = some (.slice elem)) (hu : x.P.underlying u = some d) (hd : ∀ k, d ≠ .int k) (hi : x.P.info? elem = some info) (hz : zeroT x elem = some z)
    (hn : (Builtin.lenOf y').run x.P w = .ok m w) (hc : (Builtin.firstCells info.size m y').run x.P w.drew = .ok new w.drew) (ho : (Builtin.firstCells info.size n (.slice base n cc)).run x.P w.drew = .ok old w.drew)
    (hroom : ¬ n + m ≤ cc) (hsmall : n + m ≤ 200000) (hb : info.bytes ≤ 65536) :
    (Builtin.append_ #[t, u] ty #[.slice base n cc, y']).run x.P w =
      .ok (.slice (some ⟨w.heap.size, 0, none⟩) (n + m) (grownCap w (n + m) cc elem)) (w.drew.alloc (.cells (old ++ new ++ Builtin.zeroCells z.cells (grownCap w (n + m) cc elem - (n + m))) elem)) := by
  have hmax : IntKind.i64.max = 9223372036854775807 := rfl
  have h63 : ¬ (((n + m : Nat) : Int) > IntKind.i64.max ∧ (False ∨ info.bytes = 0)) := fun hh => by
    have := hh.1; rw [hmax] at this; omega
  have hfit : Builtin.nextslicecap (n + m) cc * info.bytes ≤ 281474976710656 := growslice_fits (by omega) (by
    have : (n + m) * info.bytes ≤ 200000 * 65536 := Nat.mul_le_mul hsmall hb
    omega)
  have h48 : ¬ Builtin.nextslicecap (n + m) cc * info.bytes > 2 ^ 48 := by omega
  unfold Builtin.append_
  simp only [List.getElem?_toArray, List.getElem?_cons_zero, List.getElem?_cons_succ, Sem.run_bind, run_underlying ht, Result.andThen_ok, sizeOf, typeInfo, run_program, hi, Sem.run_pure, run_underlying hu,
    Bool.false_eq_true, if_false, hn, hroom, Bool.not_false, h63, h48, run_choose, Question.forced, run_askRoom]
  have hw : ({ w with drawn := w.drawn + 1 } : World) = w.drew := rfl
  rw [hw]
  simp only [ho, hc, Result.andThen_ok, if_true, zeroT_run hz, Go.newRow, Sem.run_bind, run_newObj, Sem.run_pure]
  rfl
theorem agree_drew : ∀ b, b < w.heap.size → w.drew.heap[b]? = w.heap[b]? := fun _ _ => rfl

/-- what an append that grew leaves -/
theorem grown_ok (h : Rel x e S w) {elem : TypeId} {z : Value} {n m cc k : Nat} {l : List Value} {old new : Array Value} (hzk : (cellsL z).length = k)
    (hl : All2 (VR e) l (old ++ new).toList) (hlen : l.length = (n + m) * k) (hsmall : n + m ≤ 200000) :
    ∃ e1, Stp x e S w e1 (addObj S (.cells l elem false)) (w.drew.alloc (.cells (old ++ new ++ Builtin.zeroCells z.cells (grownCap w (n + m) cc elem - (n + m))) elem)) ∧
      VR e1 (.slice (some (here S)) (n + m) k) (.slice (some ⟨w.heap.size, 0, none⟩) (n + m) (grownCap w (n + m) cc elem)) := by
  have hge := grownCap_ge w (n + m) cc elem
  have hmx := grownCap_le_maxLen w (n + m) cc elem (by simp only [maxLen]; omega)
  have hzs : z.cells.size = k := by rw [← hzk, cellsL_eq, Array.length_toList]
  have hsz : (old ++ new ++ Builtin.zeroCells z.cells (grownCap w (n + m) cc elem - (n + m))).size = grownCap w (n + m) cc elem * k := by
    rw [Array.size_append, ← Array.length_toList, ← hl.length, hlen, size_zeroCells, hzs, ← Nat.add_mul]
    congr 1; omega
  have hle : l.length ≤ (old ++ new ++ Builtin.zeroCells z.cells (grownCap w (n + m) cc elem - (n + m))).size := by
    rw [Array.size_append, ← Array.length_toList (xs := old ++ new), ← hl.length]; omega
  obtain ⟨e1, _, h3, h4, h5⟩ := new_row (x := x) (w := { w with drawn := w.drawn + 1 }) h.drew (el := elem) (wh := false) (l := l) (c := old ++ new ++ Builtin.zeroCells z.cells (grownCap w (n + m) cc elem - (n + m)))
    (fun i v hi => by
      obtain ⟨v', h1, h2⟩ := hl.get hi
      refine ⟨v', ?_, h2⟩
      have h1 : (old ++ new)[i]? = some v' := by rw [← Array.getElem?_toList]; exact h1
      rw [Array.getElem?_append_left (Array.getElem?_eq_some_iff.1 h1).1]; exact h1) hle (fun hh => by cases hh) (0, 0) (thawed_none _)
  exact ⟨e1, (Stp.drew h).trans h3, here_slice h4 h5 hge hmx (by rw [hsz]; exact Nat.le_refl _)⟩

theorem Env.add_sz (e : Env) (i b sh c : Nat) : (e.add i b sh none).sz c = e.sz c := by
  simp only [Env.add]; split
  · cases e.sz c <;> rfl
  · rfl
/-- append in place -/
theorem room_ok (h : Rel x e S w) {elem : TypeId} {a : Addr} {n m k cc b sh off' sz : Nat} {old new : List Value} {new' : Array Value} {el : TypeId} {wh : Bool} {c : List Value}
    (hb : e.blk a.block = some (b, sh)) (hg : S.heap.get a.block = some (.cells c el wh)) (hel : el = elem) (hs : e.sz b = some sz) (hr : off' + cc * k ≤ sz) (hoff : 0 < n → off' = sh + a.off)
    (hcm : cc ≤ maxLen) (hroom : n + m ≤ cc) (hro : readCells x S a.block a.off (n * k) = some old) (hnew : All2 (VR e) new new'.toList) (hnl : new.length = m * k) (hfl : flats new = true) :
    (storeCells ((⟨b, off', none⟩ : Addr).add (n * k)) new'.toList).run x.P w = .ok () (w.setCells b (off' + n * k) new'.toList) ∧
    ∃ e1, Stp x e S w e1 (addObj (dropObj S a.block) (.cells (old ++ new) elem false)) (w.setCells b (off' + n * k) new'.toList) ∧
      VR e1 (.slice (some (here S)) (n + m) k) (.slice (some ⟨b, off', none⟩) (n + m) cc) := by
  subst hel
  obtain ⟨b', sh', o', h1, h2, h3, h4⟩ := h.obj _ _ hg
  rw [hb] at h1; cases h1
  cases h3 with
  | cells _ _ _ c' fz _ hc hf hw hz =>
  obtain ⟨c1, el1, fz1, h5, h6⟩ := h.size b sz hs
  rw [h2] at h5; cases h5
  have hmul : (n + m) * k ≤ cc * k := Nat.mul_le_mul_right _ hroom
  have hadd : (n + m) * k = n * k + m * k := Nat.add_mul _ _ _
  have hnl' : new'.toList.length = m * k := by rw [← hnew.length]; exact hnl
  have hone := flats_ok hnew hfl
  obtain ⟨l', h7, h8, h9⟩ := readCells_ok h hb hro
  refine ⟨?_, e.add S.next b off' none, ?_, ?_⟩
  · rw [add_mk]
    have := run_storeCells_cells (P := x.P) b (off' + n * k) new'.toList 0 w (fun j hj => by
      rw [Nat.add_zero, cell_of h2]
      rw [Array.getElem?_eq_getElem (by omega)]; rfl) (fun j hj => by
      rw [Nat.add_zero]
      have := hf (off' + n * k + j) (by omega)
      simp only [World.frozen?, h2]
      rw [Bool.and_eq_false_iff]
      by_cases hlo : fz.1 ≤ off' + n * k + j
      · right; exact decide_eq_false fun hh => this ⟨hlo, hh⟩
      · left; exact decide_eq_false hlo) hone
    simpa using this
  · refine Stp.move h hg hb (setCells_heap new'.toList w b (off' + n * k) c' el fz h2) ?_ ?_ (fun k' hk' => setCells_other _ w b _ k' hk') (setCells_size _ w b _) (setCells_rest _ w b _)
    · have hle' : e.le (e.add S.next b off' none) := Env.le_add (h.fresh _ (Nat.le_refl _))
      have hol : old.length = n * k := by rw [h8.length]; exact h7
      refine .cells _ el false _ fz off' (fun i v hi => ?_) (by rw [putL_size]; exact hf) (fun hh => by cases hh) (by rw [putL_size, List.length_append, hol, hnl]; omega)
      rcases Nat.lt_or_ge i (n * k) with hi1 | hi1
      · rw [List.getElem?_append_left (by omega)] at hi
        obtain ⟨v', h10, h11⟩ := h8.get hi
        have hn0 : 0 < n := by
          rcases Nat.eq_zero_or_pos n with h0 | h0
          · rw [h0, Nat.zero_mul] at hi1; omega
          · exact h0
        have := hoff hn0; subst this
        have h12 := h9 i v' h10
        rw [cell_of h2] at h12
        exact ⟨v', by rw [putL_out _ _ _ _ (.inl (by omega))]; exact h12, h11.mono hle'⟩
      · rw [List.getElem?_append_right (by omega), hol] at hi
        obtain ⟨v', h10, h11⟩ := hnew.get hi
        have hlt := (List.getElem?_eq_some_iff.1 h10).1
        refine ⟨v', ?_, h11.mono hle'⟩
        have := putL_in new'.toList c' (off' + n * k) (i - n * k) (by omega) hlt
        rw [show off' + n * k + (i - n * k) = off' + i by omega] at this
        rw [this]; exact h10
    · intro c1 el1 fz1 hcc
      rw [h2] at hcc; cases hcc
      exact ⟨_, _, _, setCells_heap _ w b _ c' el fz h2, putL_size _ _ _⟩
  · have hbl : (e.add S.next b off' none).blk S.next = some (b, off') := by simp [Env.add]
    have := VR.slice (e := e.add S.next b off' none) S.next 0 (n + m) k cc b off' sz hbl hroom hcm (by rw [Env.add_sz]; exact hs) (by omega)
    exact this
/-- append of something that is no made slice -/
theorem appendTo_ok (h : Rel x e S w) {t u elem ty : TypeId} {d : TypeDesc} {info : TypeInfo} {z : Value} {m : Nat} {s s' y y' : Value} {new : List Value}
    (ht : x.P.underlying t = some (.slice elem)) (hu : x.P.underlying u = some d) (hd : ∀ k, d ≠ .int k) (hi : x.P.info? elem = some info) (hz : zeroT x elem = some z) (hzk : (cellsL z).length = info.size)
    (hb : info.bytes ≤ 65536) (hm : m ≤ 65536) (hs : VR e s s') (hy : VR e y y') (hl : lenV y = some m) (hf : firstCellsV x S info.size m y = some new) (hnl : new.length = m * info.size) (hfl : flats new = true) :
    Does x e S w (appendTo x elem info.size m new s S) (Builtin.append_ #[t, u] ty #[s', y']) := by
  intro v S1 hv
  obtain ⟨new', hn1, hn2⟩ := firstCellsV_ok h hy hf (fun q hq => by rw [hl] at hq; cases hq; exact Nat.le_refl _)
  have hnw := hn2 w (fun _ _ => rfl)
  have hnd := hn2 w.drew agree_drew
  have hlen := lenV_run (x := x) (w := w) hy hl
  unfold appendTo at hv
  split at hv
  · have hnil : new'.toList = [] := List.eq_nil_of_length_eq_zero (by rw [← hn1.length, hnl]; simp)
    split at hv
    · cases hv
      rw [hs.slice0_inv]
      refine ⟨_, e, w, ?_, .refl h, .ground _ 0 rfl⟩
      rw [append_room_run ht hu hd hi hlen hnw (Nat.le_refl _)]; rfl
    · cases hv
      obtain ⟨b, sh, off', cc, sz, _, hb', rfl, h4, _⟩ := hs.slice_inv
      refine ⟨_, e, w, ?_, .refl h, hs⟩
      rw [append_room_run ht hu hd hi hlen hnw (by omega)]
      show ((storeCells _ new'.toList).run x.P w).andThen _ = _
      rw [hnil]; rfl
    · cases hv
  · rename_i m1
    split at hv
    · cases hv
      rw [hs.slice0_inv]
      have ho : (Builtin.firstCells info.size 0 (.slice none 0 0)).run x.P w.drew = .ok #[] w.drew := rfl
      obtain ⟨e1, h1, h2⟩ := grown_ok h (n := 0) (m := m1 + 1) (cc := 0) (old := #[]) (new := new') (l := new) hzk (by simpa using hn1) (by rw [Nat.zero_add]; exact hnl) (by omega)
      have hrun := append_grow_run (ty := ty) ht hu hd hi hz hlen hnd ho (by omega) (by omega) hb
      simp only [Nat.zero_add] at h1 h2 hrun
      exact ⟨_, e1, _, hrun, h1, h2⟩
    · rename_i a n kk
      split at hv
      · cases hv
      · split at hv
        · cases hv
        · rename_i hkk
          have hkk := beq_iff.1 hkk; subst hkk
          split at hv
          · cases hv
          · rename_i hn
            have hn := ble_iff.1 hn
            split at hv
            · cases hv
            · split at hv
              · cases hv
              · rename_i old hro
                split at hv
                · rename_i c el wh hg
                  split at hv
                  · rename_i hel
                    cases hv
                    have hel := beq_iff.1 hel
                    obtain ⟨b, sh, off', cc, sz, hsp, hb', rfl, h4, hcm, hsz, hr, ho, hoff⟩ := hs.slice_inv
                    by_cases hroom : n + (m1 + 1) ≤ cc
                    · obtain ⟨h5, e1, h6, h7⟩ := room_ok h hb' hg hel hsz hr hoff hcm hroom hro hn1 hnl hfl
                      refine ⟨_, e1, _, ?_, h6, h7⟩
                      rw [append_room_run ht hu hd hi hlen hnw hroom]
                      show ((storeCells _ new'.toList).run x.P w).andThen _ = _
                      rw [h5]; rfl
                    · obtain ⟨old', ho1, ho2⟩ := firstCellsV_ok (x := x) (size := info.size) (n := n) (c := old) h hs (by
                        simp only [firstCellsV, hsp]; exact hro) (fun q hq => by simp only [lenV] at hq; cases hq; exact Nat.le_refl _)
                      have hol : old.length = n * info.size := by
                        obtain ⟨l', h7, h8, _⟩ := readCells_ok h hb' hro
                        rw [h8.length]; exact h7
                      have hdr := Stp.drop (w1 := w) h hg hb' (fun c1 el1 fz1 hcc => ⟨c1, el1, fz1, hcc, rfl⟩) (fun _ _ => rfl) rfl ⟨rfl, rfl, rfl⟩
                      obtain ⟨e1, h6, h7⟩ := grown_ok hdr.rel (n := n) (m := m1 + 1) (cc := cc) (old := old') (new := new') (l := old ++ new) hzk
                        (by rw [Array.toList_append]; exact All2.append ho1 hn1) (by rw [List.length_append, hol, hnl, Nat.add_mul]) (by omega)
                      refine ⟨_, e1, _, ?_, hdr.trans h6, h7⟩
                      rw [append_grow_run ht hu hd hi hz hlen hnd (ho2 w.drew agree_drew) hroom (by omega) hb]
                  · cases hv
                · cases hv
    · cases hv

/-- append of a made slice to nothing -/
theorem zeros_ok (h : Rel x e S w) {t u elem ty : TypeId} {ik : IntKind} {info : TypeInfo} {z : Value} {m : Nat} {y y' : Value}
    (ht : x.P.underlying t = some (.slice elem)) (hu : x.P.underlying u = some (.int ik)) (hi : x.P.info? elem = some info) (hz : zeroT x elem = some z) (hzk : (cellsL z).length = info.size)
    (hk : 0 < info.size) (hb : info.bytes ≤ 65536) (hm : m ≤ 65536) (hy : VR e y y') (hn : natOf y = some m) :
    Does x e S w (appendTo x elem info.size m (times m (cellsL z)) (.slice none 0 0) S) (Builtin.append_ #[t, u] ty #[.slice none 0 0, y']) := by
  intro v S1 hv
  obtain ⟨k, rfl⟩ := hy.nat_inv hn
  have hmax : IntKind.i64.max = 9223372036854775807 := rfl
  have hw1 : IntKind.i64.wrap (Int.ofNat m) = Int.ofNat m := wrap_small .i64 m (by simp only [lim]; omega)
  have hl0 : ¬ (Int.ofNat m) < 0 := by have := Int.natCast_nonneg m; show ¬ ((m : Int) < 0); omega
  have hmul : info.bytes * m ≤ 65536 * 65536 := Nat.mul_le_mul hb hm
  have hl1 : ¬ (Int.ofNat m) * (info.bytes : Int) > 2 ^ 48 := by
    have : (Int.ofNat m) * (info.bytes : Int) = ((info.bytes * m : Nat) : Int) := by simp [Int.mul_comm]
    rw [this]; omega
  have htn : (Int.ofNat m).toNat = m := rfl
  have hzs : z.cells.size = info.size := by rw [← hzk, cellsL_eq, Array.length_toList]
  unfold appendTo at hv
  split at hv
  · split at hv
    · cases hv
      refine ⟨_, e, w, ?_, .refl h, .ground _ 0 rfl⟩
      unfold Builtin.append_
      simp only [List.getElem?_toArray, List.getElem?_cons_zero, List.getElem?_cons_succ, Sem.run_bind, run_underlying ht, Result.andThen_ok, sizeOf, typeInfo, run_program, hi, Sem.run_pure, run_underlying hu,
        if_true, asInt, asIntOf, hw1, hl0, hl1, if_false, htn, Nat.add_zero, Nat.le_refl, Nat.zero_mul, Bool.not_true, Bool.false_eq_true]
    · rename_i hno; cases hno
    · cases hv
  · rename_i m1
    split at hv
    · cases hv
      have hne : ¬ (0 + (m1 + 1) ≤ 0) := by omega
      have hnz : ¬ ((m1 + 1) * info.size = 0) := by
        intro hh; rcases Nat.mul_eq_zero.1 hh with h1 | h1 <;> omega
      have h63 : ¬ (((0 + (m1 + 1) : Nat) : Int) > IntKind.i64.max ∧ (True ∨ info.bytes = 0)) := fun hh => by
        have := hh.1; rw [hmax] at this; omega
      have hfit : Builtin.nextslicecap (0 + (m1 + 1)) 0 * info.bytes ≤ 281474976710656 := growslice_fits (by omega) (by
        have : (0 + (m1 + 1)) * info.bytes ≤ 65536 * 65536 := Nat.mul_le_mul (by omega) hb
        omega)
      have h48 : ¬ Builtin.nextslicecap (0 + (m1 + 1)) 0 * info.bytes > 2 ^ 48 := by omega
      have hzc : (Builtin.zeroCells z.cells (m1 + 1)).toList = times (m1 + 1) (cellsL z) := by
        unfold Builtin.zeroCells
        rw [cellsL_eq]
        simp only [Array.toList_map, Array.toList_range]
        exact range_times z.cells (by omega) (m1 + 1)
      obtain ⟨e1, h1, h2⟩ := grown_ok h (n := 0) (m := m1 + 1) (cc := 0) (elem := elem) (old := #[]) (new := Builtin.zeroCells z.cells (m1 + 1)) (l := times (m1 + 1) (cellsL z)) hzk
        (by rw [Array.toList_append, hzc]; exact times_ground _ (zero_self hz)) (by rw [times_length, hzk, Nat.zero_add]) (by omega)
      have hrun : (Builtin.append_ #[t, u] ty #[.slice none 0 0, .int k (Int.ofNat (m1 + 1))]).run x.P w =
          .ok (.slice (some ⟨w.heap.size, 0, none⟩) (0 + (m1 + 1)) (grownCap w (0 + (m1 + 1)) 0 elem)) (w.drew.alloc (.cells (#[] ++ Builtin.zeroCells z.cells (m1 + 1) ++ Builtin.zeroCells z.cells (grownCap w (0 + (m1 + 1)) 0 elem - (0 + (m1 + 1)))) elem)) := by
        have htn' : (Int.ofNat (m1 + 1)).toNat = m1 + 1 := rfl
        unfold Builtin.append_
        simp only [List.getElem?_toArray, List.getElem?_cons_zero, List.getElem?_cons_succ, Sem.run_bind, run_underlying ht, Result.andThen_ok, sizeOf, typeInfo, run_program, hi, Sem.run_pure, run_underlying hu,
          if_true, asInt, asIntOf, hw1, hl0, hl1, if_false, htn', hne, h63, h48, run_choose, Question.forced, run_askRoom, Bool.false_eq_true, Bool.not_true, hnz, zeroT_run hz]
        have ho : (Builtin.firstCells info.size 0 (.slice none 0 0)).run x.P w.drew = .ok #[] w.drew := rfl
        have hw : ({ w with drawn := w.drawn + 1 } : World) = w.drew := rfl
        rw [hw]
        simp only [ho, Result.andThen_ok, Go.newRow, Sem.run_bind, run_newObj, Sem.run_pure]
        rfl
      simp only [Nat.zero_add] at h1 h2 hrun
      exact ⟨_, e1, _, hrun, h1, h2⟩
    · rename_i hno; cases hno
    · cases hv
theorem appendV_ok (h : Rel x e S w) {t u ty : TypeId} {s s' y y' : Value} (hs : VR e s s') (hy : VR e y y') : Does x e S w (appendV x t u s y S) (Builtin.append_ #[t, u] ty #[s', y']) := by
  intro v S1 hv
  unfold appendV at hv
  split at hv
  · rename_i elem ht
    split at hv
    · cases hv
    · rename_i info hi
      split at hv
      · cases hv
      · rename_i z hz
        split at hv
        · cases hv
        · rename_i hzk
          have hzk := beq_iff.1 hzk
          split at hv
          · cases hv
          · rename_i k hk
            split at hv
            · cases hv
            · rename_i b hb
              split at hv
              · cases hv
              · rename_i hble
                have hble := ble_iff.1 hble
                have hk' : Nat.succ k = info.size := hk.symm
                split at hv
                · cases hv
                · rename_i ik hu
                  split at hv
                  · split at hv
                    · cases hv
                    · rename_i m hm
                      split at hv
                      · cases hv
                      · rename_i hmle
                        rw [hk'] at hv
                        rw [hs.slice0_inv]
                        exact zeros_ok h ht hu hi hz hzk (by omega) (by omega) (ble_iff.1 hmle) hy hm v S1 hv
                  · cases hv
                · rename_i d hd hu
                  split at hv
                  · cases hv
                  · rename_i m hm
                    split at hv
                    · cases hv
                    · rename_i hmle
                      split at hv
                      · cases hv
                      · rename_i new hnew
                        split at hv
                        · cases hv
                        · rename_i hnl
                          split at hv
                          · cases hv
                          · rename_i hfl
                            rw [hk'] at hv hnew hnl
                            exact appendTo_ok h ht hu (fun k hh => hd k hh) hi hz hzk (by omega) (ble_iff.1 hmle) hs hy hm hnew (beq_iff.1 hnl) hfl v S1 hv
  · cases hv
end Go.X
