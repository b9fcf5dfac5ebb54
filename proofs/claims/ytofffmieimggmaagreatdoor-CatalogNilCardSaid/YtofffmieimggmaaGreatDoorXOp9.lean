import Derived.Test.YtofffmieimggmaaGreatDoorXOp8
/-
  Part twelve: copy, clear, bytes and strings, append.
-/
namespace Go.X
open Go
variable {x : Cx} {e : Env} {S : AS} {w : World}

theorem bytesV_eq : ∀ (l : List UInt8), bytesV l = l.map fun b => Value.int .u8 b.toNat
  | [] => rfl
  | b :: l => by rw [bytesV, bytesV_eq l]; rfl
theorem bytesV_self (l : List UInt8) : All2 (VR e) (bytesV l) (bytesV l) := All2.refl fun v hv => by
  rw [bytesV_eq] at hv
  obtain ⟨b, _, rfl⟩ := List.mem_map.1 hv
  exact .int _ _
theorem lenV_run {v v' : Value} {n : Nat} (h : VR e v v') (hl : lenV v = some n) : (Builtin.lenOf v').run x.P w = .ok n w := by
  unfold lenV at hl
  split at hl
  · rename_i a n c
    cases hl
    cases a with
    | none => rw [h.slice0_inv]; rfl
    | some a => obtain ⟨b, sh, o, cc, sz, _, _, rfl, _⟩ := h.slice_inv; rfl
  · rename_i s
    cases hl
    rw [h.string_inv]
    simp only [Builtin.lenOf, Sem.run_pure]
    rw [Array.length_toList]; rfl
  · cases hl
/-- the first cells of what is read -/
theorem firstCellsV_ok (h : Rel x e S w) {size n : Nat} {v v' : Value} {c : List Value} (hv : VR e v v') (hr : firstCellsV x S size n v = some c) (hn : ∀ m, lenV v = some m → n ≤ m) :
    ∃ c', All2 (VR e) c c'.toList ∧ ∀ w1 : World, (∀ b, b < w.heap.size → w1.heap[b]? = w.heap[b]?) → (Builtin.firstCells size n v').run x.P w1 = .ok c' w1 := by
  unfold firstCellsV at hr
  split at hr
  · rename_i a n1 k
    have hle := hn n1 rfl
    split at hr
    · obtain ⟨b, sh, o, cc, sz, _, hb, rfl, h4, _, hs, hr', ho, hoff⟩ := hv.slice_inv
      obtain ⟨l', h1, h2, h3⟩ := readCells_ok h hb hr
      refine ⟨l'.toArray, by simpa using h2, fun w1 hw1 => ?_⟩
      have hbl : b < w.heap.size := h.bnd _ _ _ hb
      have hcell : ∀ q, w1.cell? ⟨b, q, none⟩ = w.cell? ⟨b, q, none⟩ := fun q => by simp only [World.cell?, hw1 b hbl]
      by_cases h0 : n * size = 0
      · have hl' : l' = [] := List.eq_nil_of_length_eq_zero (by rw [h1]; exact h0)
        subst hl'
        have := run_loadCells_list (P := x.P) w1 ⟨b, o, none⟩ [] (fun j v hj => by simp at hj)
        simp only [Builtin.firstCells, h0]
        exact this
      · have hn1 : 0 < n1 := by
          rcases Nat.eq_zero_or_pos n1 with hz | hz
          · have : n = 0 := by omega
            exact absurd (by rw [this, Nat.zero_mul]) h0
          · exact hz
        have := hoff hn1; subst this
        have := run_loadCells_list (P := x.P) w1 ⟨b, sh + a.off, none⟩ l' (fun j v hj => by rw [add_mk, hcell]; exact h3 j v hj)
        rw [h1] at this
        exact this
    · cases hr
  · split at hr
    · cases hr
      rw [hv.slice0_inv]
      exact ⟨#[], trivial, fun w1 _ => rfl⟩
    · cases hr
  · rename_i s
    cases hr
    rw [hv.string_inv]
    refine ⟨(bytesV (s.data.toList.take n)).toArray, by simpa using bytesV_self _, fun w1 _ => ?_⟩
    simp only [Builtin.firstCells, Sem.run_pure]
    congr 1
    apply Array.ext'
    have hle := hn _ rfl
    rw [bytesV_eq]
    simp [ByteArray.data_extract]
  · cases hr
theorem clearV_ok (h : Rel x e S w) {t : TypeId} {v v' : Value} {ty : TypeId} (hv : VR e v v') : Does x e S w (clearV x t v S) (Builtin.clear_ #[t] ty #[v']) := by
  intro u S1 hs
  unfold clearV at hs
  split at hs
  · rename_i a n k
    obtain ⟨b, sh, o, cc, sz, hsp, hb, rfl, h4, _, hs', hr', ho, hoff⟩ := hv.slice_inv
    split at hs
    · split at hs
      · rename_i el hu
        cases hs
        refine ⟨_, e, w, ?_, .refl h, .undef⟩
        unfold Builtin.clear_
        simp only [List.getElem?_toArray, List.getElem?_cons_zero, Sem.run_bind, run_underlying hu, Result.andThen_ok, Sem.run_pure]
        rfl
      · cases hs
    · rename_i n1
      split at hs
      · rename_i el hu
        split at hs
        · rename_i z hz
          split at hs
          · cases hs
          · split at hs
            · rename_i S2 hS
              cases hs
              have hz1 := zero_self (e := e) hz
              have := hoff (by omega); subst this
              obtain ⟨h1, h2⟩ := putCells_ok h hb (times_ground (n1 + 1) hz1) hS
              refine ⟨_, e, _, ?_, h2, .undef⟩
              have hzc : (Builtin.zeroCells z.cells (n1 + 1)).toList = times (n1 + 1) (cellsL z) := by
                unfold Builtin.zeroCells
                rw [cellsL_eq]
                rcases Nat.eq_zero_or_pos z.cells.size with h0 | h0
                · have hn : z.cells.toList = [] := List.eq_nil_of_length_eq_zero (by rw [Array.length_toList]; exact h0)
                  rw [hn, times_nil, h0]; simp
                · simp only [Array.toList_map, Array.toList_range]
                  exact range_times z.cells h0 (n1 + 1)
              unfold Builtin.clear_
              simp only [List.getElem?_toArray, List.getElem?_cons_zero, Sem.run_bind, run_underlying hu, Result.andThen_ok, zeroT_run hz, hzc, h1, Sem.run_pure]
              rfl
            · cases hs
        · cases hs
      · cases hs
  · cases hs
theorem copyV_ok (h : Rel x e S w) {t : TypeId} {ts : List TypeId} {d y d' y' : Value} {ty : TypeId} (hd : VR e d d') (hy : VR e y y') :
    Does x e S w (copyV x t d y S) (Builtin.copy_ (t :: ts).toArray ty #[d', y']) := by
  intro u S1 hs
  unfold copyV at hs
  split at hs
  · rename_i a dn dk
    split at hs
    · rename_i el hu
      split at hs
      · cases hs
      · rename_i yn hyn
        split at hs
        · cases hs
        · rename_i k hk
          split at hs
          · cases hs
          · rename_i c hc
            obtain ⟨c', h1, h2⟩ := firstCellsV_ok h hy hc (fun m hm => by rw [hyn] at hm; cases hm; exact Nat.min_le_left _ _)
            have h2 := h2 w (fun _ _ => rfl)
            have hrun : ∀ (base : Option Addr) (cc : Nat), (Builtin.copy_ (t :: ts).toArray ty #[.slice base dn cc, y']).run x.P w =
                ((match base with | some a => storeCells a c'.toList | none => pure () : Sem Unit).run x.P w).andThen (fun _ w1 => .ok (goNat (Nat.min yn dn)) w1) := fun base cc => by
              unfold Builtin.copy_
              simp only [List.getElem?_toArray, List.getElem?_cons_zero, List.getElem?_cons_succ, Sem.run_bind, run_underlying hu, Result.andThen_ok, lenV_run hy hyn, sizeT_run hk, h2]
              cases base with
              | none => rfl
              | some a => simp only [Sem.run_bind]; rfl
            split at hs
            · cases hs
              rw [hd.slice0_inv]
              exact ⟨_, e, w, by rw [hrun]; rfl, .refl h, .int _ _⟩
            · obtain ⟨b, sh, o, cc, sz, hsp, hb, rfl, h4, _, hs', hr', ho, hoff⟩ := hd.slice_inv
              split at hs
              · cases hs
                have hc' : c'.toList = [] := List.eq_nil_of_length_eq_zero (by rw [← h1.length]; rfl)
                exact ⟨_, e, w, by rw [hrun, hc']; rfl, .refl h, .int _ _⟩
              · split at hs
                · cases hs
                · split at hs
                  · cases hs
                  · split at hs
                    · rename_i S2 hS
                      cases hs
                      have := hoff (by omega); subst this
                      obtain ⟨h5, h6⟩ := putCells_ok h hb h1 hS
                      refine ⟨_, e, _, ?_, h6, .int _ _⟩
                      rw [hrun]
                      show ((storeCells _ c'.toList).run x.P w).andThen _ = _
                      rw [h5]; rfl
                    · cases hs
    · cases hs
  · cases hs
noncomputable def madeCells (s : ByteArray) (cap : Nat) : Array Value := s.data.map (fun b : UInt8 => Value.int .u8 (b.toNat : Int)) ++ Array.replicate (cap - s.size) (Value.int .u8 0)
/-- bytes of a string -/
theorem bytesMade_ok (h : Rel x e S w) {el : TypeId} {s : ByteArray} (hl : s.data.toList.length ≤ 65536) : Does x e S w (bytesMade el s S) (Conv.stringToBytes el s) := by
  intro v S1 hv
  cases hv
  have hsz : s.size = s.data.toList.length := by rw [Array.length_toList]; rfl
  have hge : s.size ≤ (Question.appendCap s.size 0 el).cut (w.tape w.drawn (.appendCap s.size 0 el)) := by simp [Question.cut]
  have hmax : (Question.appendCap s.size 0 el).cut (w.tape w.drawn (.appendCap s.size 0 el)) ≤ maxLen := by
    have := Nat.mod_lt (w.tape w.drawn (.appendCap s.size 0 el)) (show 0 < 2 ^ 63 - s.size by omega)
    simp only [Question.cut, maxLen]
    omega
  generalize hcap : (Question.appendCap s.size 0 el).cut (w.tape w.drawn (.appendCap s.size 0 el)) = cap at hge hmax
  have hd : Rel x e S { w with drawn := w.drawn + 1 } := h.drew
  have hcs : (madeCells s cap).size = cap := by
    simp only [madeCells, Array.size_append, Array.size_map, Array.size_replicate]
    have : s.data.size = s.size := rfl
    omega
  have hget : ∀ (k : Nat) (v : Value), (bytesV s.data.toList)[k]? = some v → ∃ v', (madeCells s cap)[k]? = some v' ∧ VR e v v' := fun k v hk => by
    rw [bytesV_eq] at hk
    have hk1 : k < s.data.size := by
      have := (List.getElem?_eq_some_iff.1 hk).1
      rw [List.length_map, Array.length_toList] at this; exact this
    refine ⟨v, ?_, ?_⟩
    · unfold madeCells
      rw [Array.getElem?_append_left (by simpa using hk1)]
      simpa using hk
    · rw [List.getElem?_map, Option.map_eq_some_iff] at hk
      obtain ⟨b, _, rfl⟩ := hk
      exact .int _ _
  obtain ⟨e1, _, h3, h4, h5⟩ := new_row hd (el := el) (wh := false) hget (by rw [hcs, bytesV_eq]; simp; have : s.data.size = s.size := rfl; omega) (fun hh => by cases hh) (cap, cap + 1) (fun o ho hh => by
    rw [hcs] at ho; have := hh.1; simp at this; omega)
  refine ⟨.slice (some ⟨w.heap.size, 0, none⟩) s.size cap, e1, _, ?_, (Stp.drew h).trans h3, ?_⟩
  · unfold Conv.stringToBytes
    simp only [Sem.run_bind, run_choose, Question.forced, Bool.false_eq_true, if_false, Result.andThen_ok, hcap, Go.newRow, run_newObj, Sem.run_pure, markStringish, run_shape]
    change (Result.andThen (Sem.run x.P (match World.shape? { heap := w.heap.push (.cells (madeCells s cap) el), tape := w.tape, drawn := w.drawn + 1, os := w.os, output := w.output } w.heap.size with | some (_, n) => freeze { block := w.heap.size, off := n } 1 | _ => pure ()) _) _) = _
    have hshp : (World.shape? { heap := w.heap.push (.cells (madeCells s cap) el), tape := w.tape, drawn := w.drawn + 1, os := w.os, output := w.output } w.heap.size) = some (el, cap) := by
      simp only [World.shape?, Array.getElem?_push_size, hcs]
    rw [hshp]
    simp only [run_freeze, Result.andThen_ok]
    congr 1
    simp only [World.freeze, Nat.one_ne_zero, if_false]
    congr 1
    apply Array.ext_getElem?
    intro k
    rw [Array.getElem?_modify]
    by_cases hk : w.heap.size = k
    · subst hk
      simp
      rfl
    · rw [if_neg hk, Array.getElem?_push, Array.getElem?_push, if_neg (fun hh => hk hh.symm), if_neg (fun hh => hk hh.symm)]
  · rw [← hsz]
    exact here_slice h4 h5 hge hmax (by rw [hcs]; omega)
/-- unsafe.String: the block is given up -/
theorem unsafeStrV_ok (h : Rel x e S w) {t : TypeId} {p l p' l' : Value} {ts : List TypeId} {ty : TypeId} (hp : VR e p p') (hl : VR e l l') :
    Does x e S w (unsafeStrV x t p l S) (Builtin.unsafeString_ (t :: ts).toArray ty #[p', l']) := by
  intro v S1 hv
  unfold unsafeStrV at hv
  split at hv
  · rename_i a
    split at hv
    · rename_i n hn
      obtain ⟨k, rfl⟩ := hl.nat_inv hn
      split at hv
      · rename_i hle
        split at hv
        · rename_i c el wh hg
          split at hv
          · rename_i ee hu
            split at hv
            · rename_i hel
              split at hv
              · rename_i hone
                split at hv
                · rename_i bs hbs
                  cases hv
                  have hel := beq_iff.1 hel
                  subst hel
                  have hle := ble_iff.1 hle
                  obtain ⟨b, sh, hb, hsp, rfl⟩ := hp.ptr_inv
                  obtain ⟨hlen, hcell⟩ := bytesAt_ok h hb hbs
                  obtain ⟨b', sh', o', h1, h2, h3, h4⟩ := h.obj _ _ hg
                  rw [hb] at h1; cases h1
                  cases h3 with
                  | cells _ _ _ c' fz _ hc hf hw hz =>
                  have hco : x.P.cellsOf el = 1 := by
                    unfold sizeT at hone
                    cases hq : x.P.info? el with
                    | none => simp [hq] at hone
                    | some i => simp [hq] at hone; simp [Program.cellsOf, hq, hone]
                  have hsz : sh + a.off + (n + 1) ≤ c'.size := by
                    have hx : ∃ y, bs[n]? = some y := ⟨_, List.getElem?_eq_getElem (by omega)⟩
                    obtain ⟨y, hy⟩ := hx
                    have := hcell n y hy
                    rw [cell_of h2] at this
                    have := (Array.getElem?_eq_some_iff.1 this).1
                    omega
                  have hlies : liesAt x.P x.P.depth el (c'.size / x.P.cellsOf el) (sh + a.off) el (n + 1) = true := by
                    have hd : x.P.depth = (2 * (x.P.types.size + Made.depth) + 1) + 1 := rfl
                    rw [hd]
                    simp only [liesAt, Bool.or_eq_true]
                    left
                    rw [hd]
                    simp [rowAt, hco, sameLayout]
                    left
                    omega
                  have hload := Go.Lib.run_loadBytes (P := x.P) w bs ⟨b, sh + a.off, none⟩ .empty (fun j y hy => by rw [add_mk]; exact hcell j y hy)
                  rw [hlen] at hload
                  have hvar : (variablesAt ⟨b, sh + a.off, none⟩ el (n + 1)).run x.P w = .ok true w := by
                    simp [variablesAt, World.shape?, h2, hlies]
                  have hblt : b < w.heap.size := h.bnd _ _ _ hb
                  refine ⟨.string ⟨bs.toArray⟩, e, w.freeze ⟨b, sh + a.off, none⟩ (n + 1), ?_, ?_, .string _⟩
                  · have hdef : Builtin.unsafeString_ (t :: ts).toArray ty #[.pointer (some ⟨b, sh + a.off, none⟩), .int k (.ofNat (n + 1))] =
                        (do
                          let m ← asInt (.int k (.ofNat (n + 1)))
                          if m < 0 then runtimePanic (.error "unsafe.String: len out of range")
                          if m > IntKind.i64.max then unsupported (.unsafePointer "String: a length above the largest int")
                          if m = 0 then pure (.string .empty)
                          else if ← variablesAt ⟨b, sh + a.off, none⟩ (← elemOf t) m.toNat then do
                            let s ← loadBytes ⟨b, sh + a.off, none⟩ .empty m.toNat
                            freeze ⟨b, sh + a.off, none⟩ m.toNat
                            pure (.string s)
                          else unsupported (.unsafePointer "String: not so many bytes at ptr")) := rfl
                    rw [hdef]
                    have hmax : IntKind.i64.max = 9223372036854775807 := rfl
                    have hi0 : (Int.ofNat (n + 1)) = ((n + 1 : Nat) : Int) := rfl
                    have hneg : ¬ (Int.ofNat (n + 1)) < 0 := by rw [hi0]; omega
                    have hbig : ¬ (Int.ofNat (n + 1)) > IntKind.i64.max := by rw [hi0, hmax]; omega
                    have hnz : ¬ (Int.ofNat (n + 1)) = 0 := by rw [hi0]; omega
                    have htn : (Int.ofNat (n + 1)).toNat = n + 1 := rfl
                    simp only [Sem.run_bind, asInt, asIntOf, Sem.run_pure, Result.andThen_ok, hneg, if_false, hbig, hnz, elemOf, run_underlying hu, htn, hvar, if_true, hload, run_freeze]
                    congr 2
                    apply BA.ext
                    simp
                  · refine Stp.drop h hg hb ?_ ?_ ?_ ?_
                    · intro c1 el1 fz1 hcc
                      rw [h2] at hcc; cases hcc
                      refine ⟨c', el, ?_⟩
                      simp only [World.freeze, Nat.add_one_ne_zero, if_false, Array.getElem?_modify, if_true, h2, Option.map_some]
                      exact ⟨_, rfl, trivial⟩
                    · intro k hk
                      simp only [World.freeze, Nat.add_one_ne_zero, if_false, Array.getElem?_modify]
                      rw [if_neg (fun hh => hk hh.symm)]
                    · simp [World.freeze]
                    · simp [World.freeze]
                · cases hv
              · cases hv
            · cases hv
          · cases hv
        · cases hv
      · cases hv
    · cases hv
  · cases hv
end Go.X
