import Derived.Test.YtofffmieimggmaaGreatDoorXOp5
/-
  Part nine: the operations that make or turn blocks (append: part ten).
-/
namespace Go.X
open Go
variable {x : Cx} {e : Env} {S : AS} {w : World}

/-- what the executor says is what the model's text does -/
def Does (x : Cx) (e : Env) (S : AS) (w : World) (r : Option (Value × AS)) (s : Sem Value) : Prop :=
  ∀ v S1, r = some (v, S1) → ∃ v' e1 w1, s.run x.P w = .ok v' w1 ∧ Stp x e S w e1 S1 w1 ∧ VR e1 v v'
def DoesU (x : Cx) (e : Env) (S : AS) (w : World) (r : Option (Value × AS)) (s : Sem Unit) : Prop :=
  ∀ v S1, r = some (v, S1) → v = undef ∧ ∃ e1 w1, s.run x.P w = .ok () w1 ∧ Stp x e S w e1 S1 w1

theorem thawed_none (n : Nat) : thawed n (0, 0) := fun o _ h => by simp at h
/-- a new row -/
theorem new_row (h : Rel x e S w) {l : List Value} {c : Array Value} {el : TypeId} {wh : Bool} (hl : ∀ (k : Nat) (v : Value), l[k]? = some v → ∃ v', c[k]? = some v' ∧ VR e v v')
    (hle : l.length ≤ c.size) (hw : wh = true → c.size = l.length) (fz : Nat × Nat) (hf : thawed c.size fz) :
    ∃ e1, e1 = e.add S.next w.heap.size 0 (some c.size) ∧ Stp x e S w e1 (addObj S (.cells l el wh)) { w with heap := w.heap.push (.cells c el fz) } ∧
      e1.blk S.next = some (w.heap.size, 0) ∧ e1.sz w.heap.size = some c.size := by
  refine ⟨_, rfl, Stp.new h (.cells l el wh) (.cells c el fz) ?_, by simp [Env.add], by simp [Env.add, sz_none h]⟩
  have hle' : e.le (e.add S.next w.heap.size 0 (sizeOfObj (.cells c el fz))) := Env.le_add (h.fresh _ (Nat.le_refl _))
  refine .cells l el wh c fz 0 (fun k v hk => ?_) hf (fun hh => ⟨rfl, hw hh⟩) (by omega)
  obtain ⟨v', h1, h2⟩ := hl k v hk
  exact ⟨v', by rw [Nat.zero_add]; exact h1, h2.mono hle'⟩
theorem all2_row {l : List Value} {c : Array Value} (h : All2 (VR e) l c.toList) : ∀ (k : Nat) (v : Value), l[k]? = some v → ∃ v', c[k]? = some v' ∧ VR e v v' := fun k v hk => by
  obtain ⟨v', h1, h2⟩ := h.get hk
  exact ⟨v', by simpa using h1, h2⟩
theorem here_ptr {e1 : Env} {b : Nat} (h : e1.blk S.next = some (b, 0)) : VR e1 (.pointer (some (here S))) (.pointer (some ⟨b, 0, none⟩)) := .ptr S.next 0 b 0 h
theorem here_slice {e1 : Env} {b n k cc sz : Nat} (h : e1.blk S.next = some (b, 0)) (hs : e1.sz b = some sz) (hn : n ≤ cc) (hm : cc ≤ maxLen) (hz : cc * k ≤ sz) :
    VR e1 (.slice (some (here S)) n k) (.slice (some ⟨b, 0, none⟩) n cc) := .slice S.next 0 n k cc b 0 sz h hn hm hs (by omega)

theorem allocV_ok (h : Rel x e S w) {t : TypeId} : Does x e S w (allocV x t S) (Instr.alloc t true (.tuple #[])) := by
  intro v S1 hv
  unfold allocV at hv
  split at hv
  · rename_i z hz
    cases hv
    have hc := zero_cells (e := e) hz
    obtain ⟨e1, _, h1, h2, _⟩ := new_row h (el := t) (wh := true) (all2_row hc) (by rw [hc.length]; simp) (fun _ => by rw [hc.length]; simp) (0, 0) (thawed_none _)
    refine ⟨_, e1, _, ?_, h1, here_ptr h2⟩
    unfold Instr.alloc
    simp only [Sem.run_bind, zeroT_run hz, Result.andThen_ok, newVar, Go.newRow, run_newObj, Sem.run_pure]
  · cases hv
theorem boxV_ok (h : Rel x e S w) {t : TypeId} {a a' : Value} (ha : VR e a a') : Does x e S w (boxV t a S) (Instr.box t a') := by
  intro v S1 hv
  unfold boxV at hv
  split at hv
  · cases hv
  · rename_i hu
    cases hv
    have hc := ha.cells hu
    rw [← cellsL_eq] at hc
    obtain ⟨e1, _, h1, h2, _⟩ := new_row h (el := t) (wh := true) (all2_row hc) (by rw [hc.length]; simp) (fun _ => by rw [hc.length]; simp) (0, 0) (thawed_none _)
    refine ⟨_, e1, _, ?_, h1, here_ptr h2⟩
    unfold Instr.box
    simp only [Sem.run_bind, Result.andThen_ok, newVar, Go.newRow, run_newObj, Sem.run_pure]
theorem makeMapV_ok (h : Rel x e S w) {t : TypeId} {r r' : Option Value} (hr : VRO e r r') : Does x e S w (makeMapV x t r S) (Instr.makeMap t r') := by
  have hnew : ∀ v S1, some (Value.map (some S.next), addObj S (.map [] 0)) = some (v, S1) → ∃ e1 w1, w1 = { w with heap := w.heap.push (.map #[] 0) } ∧ Stp x e S w e1 S1 w1 ∧ VR e1 v (.map (some w.heap.size)) := by
    intro v S1 hv
    cases hv
    refine ⟨_, _, rfl, Stp.new h (.map [] 0) (.map #[] 0) (.map [] #[] 0 trivial), .map S.next w.heap.size 0 (by simp [Env.add])⟩
  intro v S1 hv
  unfold makeMapV at hv
  split at hv
  · cases r' with
    | some _ => exact hr.elim
    | none =>
      obtain ⟨e1, w1, rfl, h1, h2⟩ := hnew v S1 hv
      exact ⟨_, e1, _, rfl, h1, h2⟩
  · split at hv
    · split at hv
      · rename_i hu
        cases r' with
        | none => exact hr.elim
        | some u =>
          have hi : u = _ := VR.int_inv hr
          subst hi
          obtain ⟨e1, w1, rfl, h1, h2⟩ := hnew v S1 hv
          refine ⟨_, e1, _, ?_, h1, h2⟩
          unfold Instr.makeMap
          simp only [Sem.run_bind, run_underlying hu, Result.andThen_ok, asInt, asIntOf, Sem.run_pure, run_newObj]
      · cases hv
    · cases hv
/-! writing cells -/
theorem flat_ok {v v' : Value} (h : VR e v v') (hf : flat v = true) : v'.oneCell' = true := by
  cases h with
  | any => simp [unk, flat] at hf
  | ground _ d hd => cases v <;> first | rfl | (simp [flat] at hf; done)
  | agg => simp [flat] at hf
  | tuple => simp [flat] at hf
  | _ => rfl
theorem flats_mem : ∀ {l : List Value}, flats l = true → ∀ v ∈ l, flat v = true
  | [], _, v, hv => by cases hv
  | a :: l, h, v, hv => by
    have h' : (Bool.rec (motive := fun _ => Bool) false (flats l) (flat a)) = true := h
    cases hf : flat a with
    | false => rw [hf] at h'; cases h'
    | true =>
      rw [hf] at h'
      rcases List.mem_cons.1 hv with rfl | hv
      · exact hf
      · exact flats_mem h' v hv
theorem flats_ok {l l' : List Value} (h : All2 (VR e) l l') (hf : flats l = true) : ∀ v ∈ l', v.oneCell' = true := by
  induction l generalizing l' with
  | nil => cases l' with
    | nil => intro v hv; cases hv
    | cons => exact h.elim
  | cons a l ih => cases l' with
    | nil => exact h.elim
    | cons b l' =>
      have h' : (Bool.rec (motive := fun _ => Bool) false (flats l) (flat a)) = true := hf
      cases hfa : flat a with
      | false => rw [hfa] at h'; cases h'
      | true =>
        rw [hfa] at h'
        intro v hv
        rcases List.mem_cons.1 hv with rfl | hv
        · exact flat_ok h.1 hfa
        · exact ih h.2 h' v hv
theorem putCells_ok (h : Rel x e S w) {i off b sh : Nat} {vs vs' : List Value} {S1 : AS} (hb : e.blk i = some (b, sh)) (hv : All2 (VR e) vs vs') (hp : putCells x S i off vs = some S1) :
    (storeCells ⟨b, sh + off, none⟩ vs').run x.P w = .ok () (w.setCells b (sh + off) vs') ∧ Stp x e S w e S1 (w.setCells b (sh + off) vs') := by
  unfold putCells at hp
  split at hp
  · cases hp
  · split at hp
    · rename_i c el wh hg
      split at hp
      · rename_i hfl
        split at hp
        · rename_i hle
          cases hp
          have hle : off + vs.length ≤ c.length := ble_iff.1 hle
          have hlen := hv.length
          obtain ⟨b', sh', o', h1, h2, h3, h4⟩ := h.obj i _ hg
          rw [hb] at h1; cases h1
          cases h3 with
          | cells _ _ _ c' fz _ hc hf hw hz =>
          have hone := flats_ok hv hfl
          constructor
          · have := run_storeCells_cells (P := x.P) b (sh + off) vs' 0 w (fun j hj => by
              rw [Nat.add_zero, cell_of h2]
              rw [Array.getElem?_eq_getElem (by omega)]; rfl) (fun j hj => by
              rw [Nat.add_zero]
              have := hf (sh + off + j) (by omega)
              simp only [World.frozen?, h2]
              rw [Bool.and_eq_false_iff]
              by_cases hlo : fz.1 ≤ sh + off + j
              · right; exact decide_eq_false fun hh => this ⟨hlo, hh⟩
              · left; exact decide_eq_false hlo) hone
            simpa using this
          · refine Stp.upd h hg hb h2 (setCells_heap vs' w b (sh + off) c' el fz h2) ?_ ?_ (fun k hk => setCells_other vs' w b (sh + off) k hk) (setCells_size vs' w b (sh + off)) ?_
            · refine .cells _ el wh _ fz sh (fun k v hk => ?_) (by rw [putL_size]; exact hf) (fun hh => ⟨(hw hh).1, ?_⟩) ?_
              · rcases Nat.lt_or_ge k off with hk1 | hk1
                · rw [List.getElem?_append_left (by simp; omega), List.getElem?_take_of_lt hk1] at hk
                  obtain ⟨v', h5, h6⟩ := hc k v hk
                  exact ⟨v', by rw [putL_out _ _ _ _ (.inl (by omega))]; exact h5, h6⟩
                · rw [List.getElem?_append_right (by simp; omega)] at hk
                  simp only [List.length_take] at hk
                  rw [Nat.min_eq_left (by omega)] at hk
                  rcases Nat.lt_or_ge k (off + vs.length) with hk2 | hk2
                  · rw [List.getElem?_append_left (by omega)] at hk
                    obtain ⟨v', h5, h6⟩ := hv.get hk
                    refine ⟨v', ?_, h6⟩
                    have := putL_in vs' c' (sh + off) (k - off) (by omega) (by omega)
                    rw [show sh + off + (k - off) = sh + k by omega] at this
                    rw [this]; exact h5
                  · rw [List.getElem?_append_right (by omega), List.getElem?_drop] at hk
                    rw [show Nat.add off vs.length + (k - off - vs.length) = k by show off + vs.length + _ = _; omega] at hk
                    obtain ⟨v', h5, h6⟩ := hc k v hk
                    exact ⟨v', by rw [putL_out _ _ _ _ (.inr (by omega))]; exact h5, h6⟩
              · rw [putL_size, (hw hh).2]
                simp only [List.length_append, List.length_take, List.length_drop]
                have : Nat.add off vs.length = off + vs.length := rfl
                omega
              · rw [putL_size]
                simp only [List.length_append, List.length_take, List.length_drop]
                have : Nat.add off vs.length = off + vs.length := rfl
                omega
            · intro a el' fz' ha
              cases ha
              exact ⟨_, _, _, rfl, putL_size _ _ _⟩
            · exact setCells_rest vs' w b (sh + off)
        · cases hp
      · cases hp
    · cases hp
theorem putCells_flats {i off : Nat} {vs : List Value} {S1 : AS} (hp : putCells x S i off vs = some S1) : flats vs = true := by
  unfold putCells at hp
  split at hp
  · cases hp
  · split at hp
    · split at hp
      · assumption
      · cases hp
    · cases hp
theorem storeV_ok (h : Rel x e S w) {t : TypeId} {a a' v v' : Value} (ha : VR e a a') (hv : VR e v v') : DoesU x e S w (storeV x S t a v) (Instr.storeAt t a' v') := by
  intro u S1 hs
  unfold storeV at hs
  split at hs
  · rename_i p
    obtain ⟨b, sh, hb, hsp, rfl⟩ := ha.ptr_inv
    split at hs
    · cases hs
    · split at hs
      · rename_i n hn
        split at hs
        · rename_i hl
          split at hs
          · rename_i S2 hS
            cases hs
            have hl := beq_iff.1 hl
            have hu : isUnk v = false := by
              cases hk : isUnk v with
              | false => rfl
              | true =>
                have hfl := putCells_flats hS
                unfold isUnk at hk
                split at hk
                · exact absurd (flats_mem hfl _ (List.mem_singleton.2 rfl)) (by simp [flat])
                · cases hk
            have hc := hv.cells hu
            rw [← cellsL_eq] at hc
            obtain ⟨h1, h2⟩ := putCells_ok h hb hc hS
            refine ⟨rfl, e, _, ?_, h2⟩
            have hsz : v'.cells.size = n := by rw [← Array.length_toList, ← hc.length]; exact hl
            unfold Instr.storeAt
            simp only [Sem.run_bind, Instr.sureAddr, Sem.run_pure, Result.andThen_ok, storeVar, sizeT_run hn, hsz, ne_eq, not_true_eq_false, if_false, h1]
          · cases hs
        · cases hs
      · cases hs
  · cases hs
end Go.X
