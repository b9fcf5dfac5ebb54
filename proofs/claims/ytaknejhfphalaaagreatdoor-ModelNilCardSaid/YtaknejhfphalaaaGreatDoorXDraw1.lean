import Derived.Test.YtaknejhfphalaaaGreatDoorXCall3
/-
  Part twenty-one: allocations whose place in the order is not known: a number kept for them; the block made; the block taken in.
-/
namespace Go.X
open Go
variable {x : Cx} {e : Env} {S : AS} {w : World}

/-- A block is made; its number was kept; the executor does not yet hold it. -/
theorem Rel.reserve (h : Rel x e S w) {i : Nat} (hi : e.blk i = none) (hlt : i < S.next) (ob : Obj) :
    Rel x (e.add i w.heap.size 0 (sizeOfObj ob)) S { w with heap := w.heap.push ob } := by
  have hle : e.le (e.add i w.heap.size 0 (sizeOfObj ob)) := Env.le_add hi
  have hold : ∀ b, b < w.heap.size → (w.heap.push ob)[b]? = w.heap[b]? := fun b hb => by rw [Array.getElem?_push, if_neg (by omega)]
  have hblt : ∀ {b : Nat} {o' : Obj}, w.heap[b]? = some o' → b < w.heap.size := fun hb => (Array.getElem?_eq_some_iff.1 hb).1
  have hblk : ∀ j, j ≠ i → (e.add i w.heap.size 0 (sizeOfObj ob)).blk j = e.blk j := fun j hj => by simp [Env.add, hj]
  have hlive : ∀ j o, S.heap.get j = some o → j ≠ i := fun j o hj hji => by
    subst hji
    obtain ⟨b, sh, _, h1, _⟩ := h.obj j o hj
    rw [hi] at h1; cases h1
  refine ⟨?_, h.low, h.next, ?_, ?_, ?_, ?_, ?_, ?_, by have := h.gsz; simp; omega⟩
  · intro j hj; rw [hblk j (by omega)]; exact h.fresh j hj
  · intro j o hj
    obtain ⟨b, sh, o2, h1, h2, h3, h4⟩ := h.obj j o hj
    exact ⟨b, sh, o2, by rw [hblk j (hlive j o hj)]; exact h1, by rw [hold b (hblt h2)]; exact h2, h3.mono hle, h4⟩
  · intro j k o1 o2 b sh sh' hj hk hbj hbk
    rw [hblk j (hlive j o1 hj)] at hbj; rw [hblk k (hlive k o2 hk)] at hbk
    exact h.inj j k o1 o2 b sh sh' hj hk hbj hbk
  · intro b n hb
    by_cases hbs : b = w.heap.size
    · subst hbs
      simp only [Env.add, if_true, sz_none h] at hb
      cases ob <;> simp [sizeOfObj] at hb
      exact ⟨_, _, _, (by rw [Array.getElem?_push, if_pos rfl]), hb⟩
    · simp only [Env.add, if_neg hbs] at hb
      obtain ⟨c, el, fz, hc, hn⟩ := h.size b n hb
      exact ⟨c, el, fz, by rw [hold b (hblt hc)]; exact hc, hn⟩
  · intro j b sh hb
    by_cases hji : j = i
    · subst hji; simp [Env.add] at hb; simp; omega
    · rw [hblk j hji] at hb; have := h.bnd j b sh hb; simp; omega
  · intro g hg
    have : g ≠ i := fun hgi => by subst hgi; rw [h.glob g hg] at hi; cases hi
    rw [hblk g this]; exact h.glob g hg
  · intro g l hg hl
    obtain ⟨c, el, fz, hc, hv⟩ := h.gval g l hg hl
    exact ⟨c, el, fz, by rw [hold g (hblt hc)]; exact hc, hv⟩
/-- A block that was made is taken in. -/
theorem Rel.adopt (h : Rel x e S w) {i b : Nat} {o : AObj} {ob : Obj} (hb : e.blk i = some (b, 0)) (hn : S.heap.get i = none) (hG : x.G ≤ i) (hGb : x.G ≤ b) (hw : w.heap[b]? = some ob) (ho : ObjR e o ob 0) (hl : ¬ liesIn S e b) :
    Rel x e { S with heap := S.heap.set i (some o) } w := by
  have hget : ∀ j o2, (S.heap.set i (some o)).get j = some o2 → (j = i ∧ o2 = o) ∨ (j ≠ i ∧ S.heap.get j = some o2) := fun j o2 hj => by
    by_cases hji : j = i
    · subst hji; rw [PT.get_set_same] at hj; cases hj; exact .inl ⟨rfl, rfl⟩
    · rw [PT.get_set_other _ _ _ _ hji] at hj; exact .inr ⟨hji, hj⟩
  refine ⟨h.fresh, ?_, h.next, ?_, ?_, h.size, h.bnd, h.glob, h.gval, h.gsz⟩
  · intro j hj
    show (S.heap.set i (some o)).get j = none
    rw [PT.get_set_other _ _ _ _ (by omega)]; exact h.low j hj
  · intro j o2 hj
    rcases hget j o2 hj with ⟨rfl, rfl⟩ | ⟨_, hj⟩
    · exact ⟨b, 0, ob, hb, hw, ho, hGb⟩
    · exact h.obj j o2 hj
  · intro j k o2 o3 c s2 s3 hj hk hbj hbk
    rcases hget j o2 hj with ⟨hj1, _⟩ | ⟨hjn, hj2⟩ <;> rcases hget k o3 hk with ⟨hk1, _⟩ | ⟨hkn, hk2⟩
    · rw [hj1, hk1]
    · rw [hj1, hb] at hbj; cases hbj; exact absurd ⟨k, o3, s3, hk2, hbk⟩ hl
    · rw [hk1, hb] at hbk; cases hbk; exact absurd ⟨j, o2, s2, hj2, hbj⟩ hl
    · exact h.inj j k o2 o3 c s2 s3 hj2 hk2 hbj hbk
end Go.X
/-
  Part twenty-two: an operation that makes one block, its number given from outside.
-/
namespace Go.X
open Go
variable {x : Cx} {e : Env} {S : AS} {w : World} {N : Nat} {f : Fr} {a : Act}

/-- what is made -/
def Made (x : Cx) (e : Env) (w : World) (s : Sem Value) (i : Nat) (v : Value) (o : AObj) : Prop :=
  ∃ v' ob, s.run x.P w = .ok v' { w with heap := w.heap.push ob } ∧ ObjR (e.add i w.heap.size 0 (sizeOfObj ob)) o ob 0 ∧ VR (e.add i w.heap.size 0 (sizeOfObj ob)) v v'
theorem made_row {s : Sem Value} {i : Nat} (hi : e.blk i = none) {v v' : Value} {l : List Value} {c : Array Value} {el : TypeId} (hl : All2 (VR e) l c.toList)
    (hr : s.run x.P w = .ok v' { w with heap := w.heap.push (.cells c el (0, 0)) }) (hv : VR (e.add i w.heap.size 0 (some c.size)) v v') : Made x e w s i v (.cells l el true) := by
  have hle : e.le (e.add i w.heap.size 0 (some c.size)) := Env.le_add hi
  have hlen := hl.length
  refine ⟨v', .cells c el (0, 0), hr, .cells l el true c (0, 0) 0 (fun k u hk => ?_) (thawed_none _) (fun _ => ⟨rfl, by rw [hlen]; simp⟩) (by rw [hlen]; simp), hv⟩
  obtain ⟨u', h1, h2⟩ := all2_row hl k u hk
  exact ⟨u', by rw [Nat.zero_add]; exact h1, h2.mono hle⟩
theorem raw_ptr {i b : Nat} {n : Option Nat} : VR (e.add i b 0 n) (.pointer (some ⟨i, 0, none⟩)) (.pointer (some ⟨b, 0, none⟩)) := .ptr i 0 b 0 (by simp [Env.add])
theorem raw_ok (h : Rel x e S w) (hf : FR e N f a.tmps) {o : Oper} {i : Nat} (hi : e.blk i = none) {v : Value} {ob : AObj} (hr : rawOp x f o.op i = some (v, ob)) : ∃ s, execOp a.eval o = valueOf s ∧ Made x e w s i v ob := by
  unfold rawOp at hr
  split at hr
  · rename_i t hop
    split at hr
    · rename_i z hz
      cases hr
      refine ⟨Instr.alloc t true (.tuple #[]), by unfold execOp; rw [hop], made_row hi (zero_cells hz) ?_ raw_ptr⟩
      unfold Instr.alloc
      simp only [Sem.run_bind, zeroT_run hz, Result.andThen_ok, newVar, Go.newRow, run_newObj, Sem.run_pure]
    · cases hr
  · rename_i t y hop
    split at hr
    · cases hr
    · rename_i hu
      cases hr
      have hc := (ev_ok h hf y).cells hu
      rw [← cellsL_eq] at hc
      refine ⟨Instr.box t (a.eval y), by unfold execOp; rw [hop], made_row hi hc ?_ raw_ptr⟩
      unfold Instr.box
      simp only [Sem.run_bind, Result.andThen_ok, newVar, Go.newRow, run_newObj, Sem.run_pure]
  · rename_i t len parts hop
    refine ⟨Instr.buildSlice t len (parts.toList.map fun p => (p.1, a.eval p.2)).toArray, by unfold execOp; rw [hop]; simp only [parts_arr], ?_⟩
    have hp := evParts_ok h hf parts.toList
    split at hr
    · rename_i elem hu
      split at hr
      · rename_i n hn
        split at hr
        · rename_i z hz
          split at hr
          · rename_i hc3
            simp only [Bool.and_eq_true] at hc3
            have hzn := beq_iff.1 hc3.1
            have hle : len * n ≤ 16777216 := ble_iff.1 hc3.2.1
            have hlen := ble_iff.1 hc3.2.2
            split at hr
            · rename_i c hc
              cases hr
              have hrow := zero_row (len := len) hz hzn
              obtain ⟨r', h1, h2⟩ := fill_ok (c' := (Array.range (len * n)).map (fun i => (if len * n = 0 then (#[] : Array Value) else z.cells)[i % (if len * n = 0 then (#[] : Array Value) else z.cells).size]!)) hp
                (by rw [hrow]; exact times_ground len (zero_self hz)) hc
              have hsz : r'.size = len * n := by
                rw [← Array.length_toList, ← h2.length, fill_size hc, times_length, hzn]
              refine made_row hi h2 (v' := .slice (some ⟨w.heap.size, 0, none⟩) len len) ?_ (.slice i 0 len n len w.heap.size 0 r'.size (by simp [Env.add]) (Nat.le_refl _) (by simp only [maxLen]; omega) (by simp [Env.add, sz_none h]) (by omega))
              unfold Instr.buildSlice
              have hnl : ¬ len * n > 2 ^ 24 := by omega
              rw [Sem.run_bind, run_underlying hu, Result.andThen_ok]
              simp only [Sem.run_bind, sizeT_run hn, Result.andThen_ok]
              rw [if_neg hnl]
              by_cases h0 : len * n = 0
              · simp only [h0, if_true] at h1
                simp only [h0, if_true, Sem.run_bind, Sem.run_pure, Result.andThen_ok]
                have h1' : Instr.fill (fun i => some (i * n, n)) ((Array.range 0).map (fun i => (#[] : Array Value)[i % (#[] : Array Value).size]!)) _ = some r' := h1
                rw [h1']
                simp only [Sem.run_bind, Go.newRow, run_newObj, Result.andThen_ok, Sem.run_pure]
              · simp only [h0, if_false] at h1
                simp only [h0, if_false, Sem.run_bind, Sem.run_pure, Result.andThen_ok, zeroT_run hz]
                have h1' : Instr.fill (fun i => some (i * n, n)) ((Array.range (len * n)).map (fun i => z.cells[i % z.cells.size]!)) _ = some r' := h1
                rw [h1']
                simp only [Sem.run_bind, Go.newRow, run_newObj, Result.andThen_ok, Sem.run_pure]
            · cases hr
          · cases hr
        · cases hr
      · cases hr
    · cases hr
  · rename_i t hop
    cases hr
    exact ⟨Instr.makeMap t none, by unfold execOp; rw [hop]; rfl, .map (some w.heap.size), .map #[] 0, rfl, .map [] #[] 0 trivial, .map i w.heap.size 0 (by simp [Env.add])⟩
  · cases hr
end Go.X
