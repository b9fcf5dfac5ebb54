import Derived.Test.YtaknejhfphalaaaGreatDoorXOp5
import Derived.Laws.Append
/-
  Part nine: the operations that make or turn blocks (append: part ten).
-/
namespace Go.X
open Go
variable {x : Cx} {e : Env} {S : AS} {w : World}

/-- what the executor says is what the model's text does -/
def Does (x : Cx) (e : Env) (S : AS) (w : World) (r : Option (Value × AS)) (s : Sem Value) : Prop :=
  ∀ v S1, r = some (v, S1) → ∃ v' e1 w1, s.run x.P w = .ok v' w1 ∧ Stp x e S w e1 S1 w1 ∧ VR e1 v v'
def DoesU (x : Cx) (e : Env) (S : AS) (w : World) (r : Option (Value × AS)) (s : Sem Unit) : Prop :=
  ∀ v S1, r = some (v, S1) → v = undef ∧ ∃ e1 w1, s.run x.P w = .ok () w1 ∧ Stp x e S w e1 S1 w1

theorem thawed_none (n : Nat) : thawed n (0, 0) := fun o _ h => by simp at h
/-- a new row -/
theorem new_row (h : Rel x e S w) {l : List Value} {c : Array Value} {el : TypeId} {wh : Bool} (hl : ∀ (k : Nat) (v : Value), l[k]? = some v → ∃ v', c[k]? = some v' ∧ VR e v v')
    (hle : l.length ≤ c.size) (hw : wh = true → c.size = l.length) (fz : Nat × Nat) (hf : thawed c.size fz) :
    ∃ e1, e1 = e.add S.next w.heap.size 0 (some c.size) ∧ Stp x e S w e1 (addObj S (.cells l el wh)) { w with heap := w.heap.push (.cells c el fz) } ∧
      e1.blk S.next = some (w.heap.size, 0) ∧ e1.sz w.heap.size = some c.size := by
  refine ⟨_, rfl, Stp.new h (.cells l el wh) (.cells c el fz) ?_, by simp [Env.add], by simp [Env.add, sz_none h]⟩
  have hle' : e.le (e.add S.next w.heap.size 0 (sizeOfObj (.cells c el fz))) := Env.le_add (h.fresh _ (Nat.le_refl _))
  refine .cells l el wh c fz 0 (fun k v hk => ?_) hf (fun hh => ⟨rfl, hw hh⟩) (by omega)
  obtain ⟨v', h1, h2⟩ := hl k v hk
  exact ⟨v', by rw [Nat.zero_add]; exact h1, h2.mono hle'⟩
theorem all2_row {l : List Value} {c : Array Value} (h : All2 (VR e) l c.toList) : ∀ (k : Nat) (v : Value), l[k]? = some v → ∃ v', c[k]? = some v' ∧ VR e v v' := fun k v hk => by
  obtain ⟨v', h1, h2⟩ := h.get hk
  exact ⟨v', by simpa using h1, h2⟩
theorem here_ptr {e1 : Env} {b : Nat} (h : e1.blk S.next = some (b, 0)) : VR e1 (.pointer (some (here S))) (.pointer (some ⟨b, 0, none⟩)) := .ptr S.next 0 b 0 h
theorem here_slice {e1 : Env} {b n k cc sz : Nat} (h : e1.blk S.next = some (b, 0)) (hs : e1.sz b = some sz) (hn : n ≤ cc) (hm : cc ≤ maxLen) (hz : cc * k ≤ sz) :
    VR e1 (.slice (some (here S)) n k) (.slice (some ⟨b, 0, none⟩) n cc) := .slice S.next 0 n k cc b 0 sz h hn hm hs (by omega)

theorem allocV_ok (h : Rel x e S w) {t : TypeId} : Does x e S w (allocV x t S) (Instr.alloc t true (.tuple #[])) := by
  intro v S1 hv
  unfold allocV at hv
  split at hv
  · rename_i z hz
    cases hv
    have hc := zero_cells (e := e) hz
    obtain ⟨e1, _, h1, h2, _⟩ := new_row h (el := t) (wh := true) (all2_row hc) (by rw [hc.length]; simp) (fun _ => by rw [hc.length]; simp) (0, 0) (thawed_none _)
    refine ⟨_, e1, _, ?_, h1, here_ptr h2⟩
    unfold Instr.alloc
    simp only [Sem.run_bind, zeroT_run hz, Result.andThen_ok, newVar, Go.newRow, run_newObj, Sem.run_pure]
  · cases hv
theorem boxV_ok (h : Rel x e S w) {t : TypeId} {a a' : Value} (ha : VR e a a') : Does x e S w (boxV t a S) (Instr.box t a') := by
  intro v S1 hv
  unfold boxV at hv
  split at hv
  · cases hv
  · rename_i hu
    cases hv
    have hc := ha.cells hu
    rw [← cellsL_eq] at hc
    obtain ⟨e1, _, h1, h2, _⟩ := new_row h (el := t) (wh := true) (all2_row hc) (by rw [hc.length]; simp) (fun _ => by rw [hc.length]; simp) (0, 0) (thawed_none _)
    refine ⟨_, e1, _, ?_, h1, here_ptr h2⟩
    unfold Instr.box
    simp only [Sem.run_bind, Result.andThen_ok, newVar, Go.newRow, run_newObj, Sem.run_pure]
/-- a block's size becomes known -/
theorem Stp.sized (h : Rel x e S w) {b : Nat} {c : Array Value} {el : TypeId} {fz : Nat × Nat} (hb : w.heap[b]? = some (.cells c el fz)) : ∃ e1, Stp x e S w e1 S w ∧ e1.sz b = some c.size := by
  cases hs : e.sz b with
  | some m =>
    obtain ⟨c', el', fz', h1, h2⟩ := h.size b m hs
    rw [hb] at h1; cases h1
    exact ⟨e, .refl h, by rw [hs, h2]⟩
  | none =>
    have hle : e.le { blk := e.blk, sz := fun k => if k = b then some c.size else e.sz k } := ⟨fun _ _ h => h, fun k n hk => by
      show (if k = b then some c.size else e.sz k) = some n
      split
      · rename_i hkb; subst hkb; rw [hs] at hk; cases hk
      · exact hk⟩
    refine ⟨{ blk := e.blk, sz := fun k => if k = b then some c.size else e.sz k }, ⟨⟨h.fresh, h.low, h.next, fun i o ho => ?_, h.inj, fun k n hk => ?_, h.bnd, h.glob, h.gval, h.gsz⟩, hle, rfl, rfl, rfl, Nat.le_refl _, fun _ _ _ => rfl, fun _ _ h => h, Nat.le_refl _, fun _ _ h => h⟩, by simp⟩
    · obtain ⟨b', sh, o', h1, h2, h3, h4⟩ := h.obj i o ho
      exact ⟨b', sh, o', h1, h2, h3.mono hle, h4⟩
    · have hk : (if k = b then some c.size else e.sz k) = some n := hk
      by_cases hkb : k = b
      · rw [if_pos hkb] at hk; rw [hkb]; exact ⟨c, el, fz, hb, Option.some.inj hk⟩
      · rw [if_neg hkb] at hk; exact h.size k n hk
theorem sliceArr_ok (hrel : Rel x e S w) {a a' : Value} {t : TypeId} {lo hi lo' hi' : Option Value} (ha : VR e a a') (hlo : VRO e lo lo') (hhi : VRO e hi hi') :
    Does x e S w (sliceArrW x t a lo hi S) (Instr.sliceAt t a' lo' hi' none) := by
  intro v S1 hv
  unfold sliceArrW at hv
  split at hv
  case h_2 => cases hv
  rename_i v2 h
  cases hv
  unfold sliceArr at h
  split at h
  · rename_i p
    split at h
    · cases h
    · split at h
      · rename_i n elem hu
        split at h
        · rename_i k hk
          split at h
          · rename_i l hl
            split at h
            · rename_i hh hhh
              split at h
              · rename_i h1
                split at h
                · rename_i h2
                  split at h
                  · rename_i c el wh hg
                    split at h
                    · rename_i h3
                      split at h
                      · rename_i h65
                        cases h
                        have h1 := ble_iff.1 h1
                        have h2 := ble_iff.1 h2
                        have h3 : p.off + n * k ≤ c.length := ble_iff.1 h3
                        have h65 := ble_iff.1 h65
                        obtain ⟨b, sh, hb, hsp, rfl⟩ := ha.ptr_inv
                        obtain ⟨b', sh', o', g1, g2, g3, g4⟩ := hrel.obj _ _ hg
                        rw [hb] at g1; cases g1
                        cases g3 with
                        | cells _ _ _ c' fz _ hc hf hw hz =>
                        have hbd := sliceBounds_run (x := x) (w := w) (isS := false) (cap := n) hlo hhi hl hhh h1 h2
                        obtain ⟨e1, hst, hs1⟩ := Stp.sized hrel g2
                        have hb := hst.le.blk _ _ hb
                        refine ⟨.slice (some (if n = l then ⟨b, sh + p.off, none⟩ else ⟨b, sh + p.off + l * k, none⟩)) (hh - l) (n - l), e1, w, ?_, hst, ?_⟩
                        · unfold Instr.sliceAt
                          simp only [Sem.run_bind, run_underlying hu, Result.andThen_ok, Instr.sureAddr, hbd, sizeT_run hk, Sem.run_pure, add_mk]
                        · have hrr : sh + p.off + l * k + (n - l) * k ≤ c'.size := by
                            have h5 : l * k + (n - l) * k = n * k := by rw [← Nat.add_mul]; congr 1; omega
                            omega
                          have hml : n - l ≤ maxLen := by simp only [maxLen]; omega
                          by_cases hz0 : hh - l = 0
                          · have hz' : Nat.sub hh l = 0 := hz0
                            rw [hz', hz0]
                            split
                            · exact .slice0 p.block _ k (n - l) b sh (sh + p.off) c'.size hb hml hs1 (by omega) (by omega)
                            · exact .slice0 p.block _ k (n - l) b sh (sh + p.off + l * k) c'.size hb hml hs1 (by omega) hrr
                          · have hne : ¬ n = l := by omega
                            rw [if_neg hne]
                            have h5 : sh + Nat.add p.off (Nat.mul l k) = sh + p.off + l * k := by
                              show sh + (p.off + l * k) = _
                              omega
                            have hv := VR.slice (e := e1) p.block (Nat.add p.off (Nat.mul l k)) (hh - l) k (n - l) b sh c'.size hb (by omega) hml hs1 (by rw [h5]; exact hrr)
                            rw [h5] at hv
                            exact hv
                      · cases h
                    · cases h
                  · cases h
                · cases h
              · cases h
            · cases h
          · cases h
        · cases h
      · cases h
  · cases h
theorem makeMapV_ok (h : Rel x e S w) {t : TypeId} {r r' : Option Value} (hr : VRO e r r') : Does x e S w (makeMapV x t r S) (Instr.makeMap t r') := by
  have hnew : ∀ v S1, some (Value.map (some S.next), addObj S (.map [] 0)) = some (v, S1) → ∃ e1 w1, w1 = { w with heap := w.heap.push (.map #[] 0) } ∧ Stp x e S w e1 S1 w1 ∧ VR e1 v (.map (some w.heap.size)) := by
    intro v S1 hv
    cases hv
    refine ⟨_, _, rfl, Stp.new h (.map [] 0) (.map #[] 0) (.map [] #[] 0 trivial), .map S.next w.heap.size 0 (by simp [Env.add])⟩
  intro v S1 hv
  unfold makeMapV at hv
  split at hv
  · cases r' with
    | some _ => exact hr.elim
    | none =>
      obtain ⟨e1, w1, rfl, h1, h2⟩ := hnew v S1 hv
      exact ⟨_, e1, _, rfl, h1, h2⟩
  · split at hv
    · split at hv
      · rename_i hu
        cases r' with
        | none => exact hr.elim
        | some u =>
          have hi : u = _ := VR.int_inv hr
          subst hi
          obtain ⟨e1, w1, rfl, h1, h2⟩ := hnew v S1 hv
          refine ⟨_, e1, _, ?_, h1, h2⟩
          unfold Instr.makeMap
          simp only [Sem.run_bind, run_underlying hu, Result.andThen_ok, asInt, asIntOf, Sem.run_pure, run_newObj]
      · cases hv
    · cases hv
/-! writing cells -/
theorem flat_ok {v v' : Value} (h : VR e v v') (hf : flat v = true) : v'.oneCell' = true := by
  cases h with
  | any => simp [unk, flat] at hf
  | ground _ d hd => cases v <;> first | rfl | (simp [flat] at hf; done)
  | agg => simp [flat] at hf
  | tuple => simp [flat] at hf
  | _ => rfl
theorem flats_mem : ∀ {l : List Value}, flats l = true → ∀ v ∈ l, flat v = true
  | [], _, v, hv => by cases hv
  | a :: l, h, v, hv => by
    have h' : (Bool.rec (motive := fun _ => Bool) false (flats l) (flat a)) = true := h
    cases hf : flat a with
    | false => rw [hf] at h'; cases h'
    | true =>
      rw [hf] at h'
      rcases List.mem_cons.1 hv with rfl | hv
      · exact hf
      · exact flats_mem h' v hv
theorem flats_ok {l l' : List Value} (h : All2 (VR e) l l') (hf : flats l = true) : ∀ v ∈ l', v.oneCell' = true := by
  induction l generalizing l' with
  | nil => cases l' with
    | nil => intro v hv; cases hv
    | cons => exact h.elim
  | cons a l ih => cases l' with
    | nil => exact h.elim
    | cons b l' =>
      have h' : (Bool.rec (motive := fun _ => Bool) false (flats l) (flat a)) = true := hf
      cases hfa : flat a with
      | false => rw [hfa] at h'; cases h'
      | true =>
        rw [hfa] at h'
        intro v hv
        rcases List.mem_cons.1 hv with rfl | hv
        · exact flat_ok h.1 hfa
        · exact ih h.2 h' v hv
theorem putCells_ok (h : Rel x e S w) {i off b sh : Nat} {vs vs' : List Value} {S1 : AS} (hb : e.blk i = some (b, sh)) (hv : All2 (VR e) vs vs') (hp : putCells x S i off vs = some S1) :
    (storeCells ⟨b, sh + off, none⟩ vs').run x.P w = .ok () (w.setCells b (sh + off) vs') ∧ Stp x e S w e S1 (w.setCells b (sh + off) vs') := by
  unfold putCells at hp
  split at hp
  · cases hp
  · split at hp
    · rename_i c el wh hg
      split at hp
      · rename_i hfl
        split at hp
        · rename_i hle
          cases hp
          have hle : off + vs.length ≤ c.length := ble_iff.1 hle
          have hlen := hv.length
          obtain ⟨b', sh', o', h1, h2, h3, h4⟩ := h.obj i _ hg
          rw [hb] at h1; cases h1
          cases h3 with
          | cells _ _ _ c' fz _ hc hf hw hz =>
          have hone := flats_ok hv hfl
          constructor
          · have := run_storeCells_cells (P := x.P) b (sh + off) vs' 0 w (fun j hj => by
              rw [Nat.add_zero, cell_of h2]
              rw [Array.getElem?_eq_getElem (by omega)]; rfl) (fun j hj => by
              rw [Nat.add_zero]
              have := hf (sh + off + j) (by omega)
              simp only [World.frozen?, h2]
              rw [Bool.and_eq_false_iff]
              by_cases hlo : fz.1 ≤ sh + off + j
              · right; exact decide_eq_false fun hh => this ⟨hlo, hh⟩
              · left; exact decide_eq_false hlo) hone
            simpa using this
          · refine Stp.upd h hg hb h2 (setCells_heap vs' w b (sh + off) c' el fz h2) ?_ ?_ (fun k hk => setCells_other vs' w b (sh + off) k hk) (setCells_size vs' w b (sh + off)) ?_
            · refine .cells _ el wh _ fz sh (fun k v hk => ?_) (by rw [putL_size]; exact hf) (fun hh => ⟨(hw hh).1, ?_⟩) ?_
              · rcases Nat.lt_or_ge k off with hk1 | hk1
                · rw [List.getElem?_append_left (by simp; omega), List.getElem?_take_of_lt hk1] at hk
                  obtain ⟨v', h5, h6⟩ := hc k v hk
                  exact ⟨v', by rw [putL_out _ _ _ _ (.inl (by omega))]; exact h5, h6⟩
                · rw [List.getElem?_append_right (by simp; omega)] at hk
                  simp only [List.length_take] at hk
                  rw [Nat.min_eq_left (by omega)] at hk
                  rcases Nat.lt_or_ge k (off + vs.length) with hk2 | hk2
                  · rw [List.getElem?_append_left (by omega)] at hk
                    obtain ⟨v', h5, h6⟩ := hv.get hk
                    refine ⟨v', ?_, h6⟩
                    have := putL_in vs' c' (sh + off) (k - off) (by omega) (by omega)
                    rw [show sh + off + (k - off) = sh + k by omega] at this
                    rw [this]; exact h5
                  · rw [List.getElem?_append_right (by omega), List.getElem?_drop] at hk
                    rw [show Nat.add off vs.length + (k - off - vs.length) = k by show off + vs.length + _ = _; omega] at hk
                    obtain ⟨v', h5, h6⟩ := hc k v hk
                    exact ⟨v', by rw [putL_out _ _ _ _ (.inr (by omega))]; exact h5, h6⟩
              · rw [putL_size, (hw hh).2]
                simp only [List.length_append, List.length_take, List.length_drop]
                have : Nat.add off vs.length = off + vs.length := rfl
                omega
              · rw [putL_size]
                simp only [List.length_append, List.length_take, List.length_drop]
                have : Nat.add off vs.length = off + vs.length := rfl
                omega
            · intro a el' fz' ha
              cases ha
              exact ⟨_, _, _, rfl, putL_size _ _ _⟩
            · exact setCells_rest vs' w b (sh + off)
        · cases hp
      · cases hp
    · cases hp
theorem putCells_flats {i off : Nat} {vs : List Value} {S1 : AS} (hp : putCells x S i off vs = some S1) : flats vs = true := by
  unfold putCells at hp
  split at hp
  · cases hp
  · split at hp
    · split at hp
      · assumption
      · cases hp
    · cases hp
theorem storeV_ok (h : Rel x e S w) {t : TypeId} {a a' v v' : Value} (ha : VR e a a') (hv : VR e v v') : DoesU x e S w (storeV x S t a v) (Instr.storeAt t a' v') := by
  intro u S1 hs
  unfold storeV at hs
  split at hs
  · rename_i p
    obtain ⟨b, sh, hb, hsp, rfl⟩ := ha.ptr_inv
    split at hs
    · cases hs
    · split at hs
      · rename_i n hn
        split at hs
        · rename_i hl
          split at hs
          · rename_i S2 hS
            cases hs
            have hl := beq_iff.1 hl
            have hu : isUnk v = false := by
              cases hk : isUnk v with
              | false => rfl
              | true =>
                have hfl := putCells_flats hS
                unfold isUnk at hk
                split at hk
                · exact absurd (flats_mem hfl _ (List.mem_singleton.2 rfl)) (by simp [flat])
                · cases hk
            have hc := hv.cells hu
            rw [← cellsL_eq] at hc
            obtain ⟨h1, h2⟩ := putCells_ok h hb hc hS
            refine ⟨rfl, e, _, ?_, h2⟩
            have hsz : v'.cells.size = n := by rw [← Array.length_toList, ← hc.length]; exact hl
            unfold Instr.storeAt
            simp only [Sem.run_bind, Instr.sureAddr, Sem.run_pure, Result.andThen_ok, storeVar, sizeT_run hn, hsz, ne_eq, not_true_eq_false, if_false, h1]
          · cases hs
        · cases hs
      · cases hs
  · cases hs
end Go.X
/-
  Part ten: slices that are made, maps that are turned, append, copy, clear, bytes and strings.
-/
namespace Go.X
open Go
variable {x : Cx} {e : Env} {S : AS} {w : World}

theorem range_times (z : Array Value) (hz : 0 < z.size) : ∀ (len : Nat), ((List.range (len * z.size)).map fun i => z[i % z.size]!) = times len z.toList
  | 0 => by simp [times]
  | n + 1 => by
    rw [times, ← range_times z hz n]
    have h1 : (n + 1) * z.size = z.size + n * z.size := by rw [Nat.add_mul, Nat.one_mul, Nat.add_comm]
    rw [h1, List.range_add, List.map_append, List.map_map]
    congr 1
    · apply List.ext_getElem
      · simp
      · intro i h1 h2
        simp at h1
        simp [Nat.mod_eq_of_lt h1, h1]
    · apply List.map_congr_left
      intro i _
      simp
theorem times_nil : ∀ n, times n [] = []
  | 0 => rfl
  | n + 1 => by rw [times, times_nil n]; rfl
theorem times_length : ∀ (n : Nat) (z : List Value), (times n z).length = n * z.length
  | 0, z => by simp [times]
  | n + 1, z => by rw [times, List.length_append, times_length n, Nat.add_mul, Nat.one_mul, Nat.add_comm]
theorem times_ground : ∀ (n : Nat) {z : List Value}, All2 (VR e) z z → All2 (VR e) (times n z) (times n z)
  | 0, _, _ => trivial
  | n + 1, _, h => All2.append h (times_ground n h)
theorem zero_self {t : TypeId} {z : Value} (h : zeroT x t = some z) : All2 (VR e) (cellsL z) (cellsL z) := by
  have := zero_cells (e := e) h
  rw [← cellsL_eq] at this; exact this
theorem zero_row {t : TypeId} {z : Value} {n len : Nat} (_h : zeroT x t = some z) (hn : (cellsL z).length = n) :
    ((Array.range (len * n)).map (fun i => (if len * n = 0 then (#[] : Array Value) else z.cells)[i % (if len * n = 0 then (#[] : Array Value) else z.cells).size]!)).toList = times len (cellsL z) := by
  have hc : z.cells.size = n := by rw [cellsL_eq, Array.length_toList] at hn; exact hn
  by_cases h0 : len * n = 0
  · rw [h0]
    simp only [Array.toList_map, Array.toList_range, List.range_zero, List.map_nil]
    symm
    rcases Nat.mul_eq_zero.1 h0 with h1 | h1
    · rw [h1]; rfl
    · rw [h1] at hn
      rw [List.eq_nil_of_length_eq_zero hn, times_nil]
  · simp only [h0, if_false, Array.toList_map, Array.toList_range]
    rw [cellsL_eq, ← hc]
    have hpos : 0 < z.cells.size := by rw [hc]; exact Nat.pos_of_ne_zero (fun hh => h0 (by rw [hh, Nat.mul_zero]))
    exact range_times z.cells hpos len
theorem fill_size {place : Nat → Option (Nat × Nat)} : ∀ {l : List (Nat × Value)} {c r : List Value}, fillL place c l = some r → r.length = c.length
  | [], c, r, h => by simp only [fillL, Option.some.injEq] at h; rw [h]
  | (i, v) :: l, c, r, h => by
    simp only [fillL] at h
    split at h
    · cases h
    · split at h
      · cases h
      · split at h
        · rename_i hs
          split at h
          · rename_i hle
            have hs := beq_iff.1 hs
            have hle := ble_iff.1 hle
            rw [fill_size h]
            simp only [List.length_append, List.length_take, List.length_drop]
            simp only [Nat.add_eq] at *
            omega
          · cases h
        · cases h
theorem buildSlice_aux (h : Rel x e S w) {t elem : TypeId} {len n : Nat} {z : Value} {c : List Value} {l m : List (Nat × Value)} (hp : PartsR e l m) (hu : x.P.underlying t = some (.slice elem))
    (hn : sizeT x elem = some n) (hz : zeroT x elem = some z) (hzn : (cellsL z).length = n) (hle : len * n ≤ 16777216) (hlen : len ≤ 16777216)
    (hc : fillL (fun i => some (Nat.mul i n, n)) (times len (cellsL z)) l = some c) :
    Does x e S w (some (.slice (some (here S)) len n, addObj S (.cells c elem true))) (Instr.buildSlice t len m.toArray) := by
  intro v S1 hv
  cases hv
  have hrow := zero_row (len := len) hz hzn
  obtain ⟨r', h1, h2⟩ := fill_ok (c' := (Array.range (len * n)).map (fun i => (if len * n = 0 then (#[] : Array Value) else z.cells)[i % (if len * n = 0 then (#[] : Array Value) else z.cells).size]!)) hp
    (by rw [hrow]; exact times_ground len (zero_self hz)) hc
  have hsz : r'.size = len * n := by
    rw [← Array.length_toList, ← h2.length, fill_size hc, times_length, hzn]
  obtain ⟨e1, _, h3, h4, h5⟩ := new_row h (el := elem) (wh := true) (all2_row h2) (by rw [h2.length]; simp) (fun _ => by rw [h2.length]; simp) (0, 0) (thawed_none _)
  refine ⟨.slice (some ⟨w.heap.size, 0, none⟩) len len, e1, _, ?_, h3, here_slice h4 h5 (Nat.le_refl _) (by simp only [maxLen]; omega) (by omega)⟩
  unfold Instr.buildSlice
  have hnl : ¬ len * n > 2 ^ 24 := by omega
  rw [Sem.run_bind, run_underlying hu, Result.andThen_ok]
  simp only [Sem.run_bind, sizeT_run hn, Result.andThen_ok]
  rw [if_neg hnl]
  by_cases h0 : len * n = 0
  · simp only [h0, if_true] at h1
    simp only [h0, if_true, Sem.run_bind, Sem.run_pure, Result.andThen_ok]
    have h1' : Instr.fill (fun i => some (i * n, n)) ((Array.range 0).map (fun i => (#[] : Array Value)[i % (#[] : Array Value).size]!)) m = some r' := h1
    rw [h1']
    simp only [Sem.run_bind, Go.newRow, run_newObj, Result.andThen_ok, Sem.run_pure]
  · simp only [h0, if_false] at h1
    simp only [h0, if_false, Sem.run_bind, Sem.run_pure, Result.andThen_ok, zeroT_run hz]
    have h1' : Instr.fill (fun i => some (i * n, n)) ((Array.range (len * n)).map (fun i => z.cells[i % z.cells.size]!)) m = some r' := h1
    rw [h1']
    simp only [Sem.run_bind, Go.newRow, run_newObj, Result.andThen_ok, Sem.run_pure]
theorem buildSliceV_ok (h : Rel x e S w) {t : TypeId} {len : Nat} {l m : List (Nat × Value)} (hp : PartsR e l m) : Does x e S w (buildSliceV x t len l S) (Instr.buildSlice t len m.toArray) := by
  intro v S1 hv
  unfold buildSliceV at hv
  split at hv
  · rename_i elem hu
    split at hv
    · rename_i n hn
      split at hv
      · rename_i z hz
        split at hv
        · rename_i hzn
          split at hv
          · rename_i hle
            split at hv
            · rename_i hlen
              split at hv
              · rename_i c hc
                exact buildSlice_aux h hp hu hn hz (beq_iff.1 hzn) (ble_iff.1 hle) (ble_iff.1 hlen) hc v S1 hv
              · cases hv
            · cases hv
          · cases hv
        · cases hv
      · cases hv
    · cases hv
  · cases hv
end Go.X
