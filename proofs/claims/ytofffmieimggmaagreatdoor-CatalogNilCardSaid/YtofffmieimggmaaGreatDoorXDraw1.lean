import Derived.Test.YtofffmieimggmaaGreatDoorXCall3
/-
  Part twenty-one: allocations whose place in the order is not known: a number kept for them; the block made; the block taken in.
-/
namespace Go.X
open Go
variable {x : Cx} {e : Env} {S : AS} {w : World}

/-- A block is made; its number was kept; the executor does not yet hold it. -/
theorem Rel.reserve (h : Rel x e S w) {i : Nat} (hi : e.blk i = none) (hlt : i < S.next) (ob : Obj) :
    Rel x (e.add i w.heap.size 0 (sizeOfObj ob)) S { w with heap := w.heap.push ob } := by
  have hle : e.le (e.add i w.heap.size 0 (sizeOfObj ob)) := Env.le_add hi
  have hold : ∀ b, b < w.heap.size → (w.heap.push ob)[b]? = w.heap[b]? := fun b hb => by rw [Array.getElem?_push, if_neg (by omega)]
  have hblt : ∀ {b : Nat} {o' : Obj}, w.heap[b]? = some o' → b < w.heap.size := fun hb => (Array.getElem?_eq_some_iff.1 hb).1
  have hblk : ∀ j, j ≠ i → (e.add i w.heap.size 0 (sizeOfObj ob)).blk j = e.blk j := fun j hj => by simp [Env.add, hj]
  have hlive : ∀ j o, S.heap.get j = some o → j ≠ i := fun j o hj hji => by
    subst hji
    obtain ⟨b, sh, _, h1, _⟩ := h.obj j o hj
    rw [hi] at h1; cases h1
  refine ⟨?_, h.low, h.next, ?_, ?_, ?_, ?_, ?_, ?_, by have := h.gsz; simp; omega⟩
  · intro j hj; rw [hblk j (by omega)]; exact h.fresh j hj
  · intro j o hj
    obtain ⟨b, sh, o2, h1, h2, h3, h4⟩ := h.obj j o hj
    exact ⟨b, sh, o2, by rw [hblk j (hlive j o hj)]; exact h1, by rw [hold b (hblt h2)]; exact h2, h3.mono hle, h4⟩
  · intro j k o1 o2 b sh sh' hj hk hbj hbk
    rw [hblk j (hlive j o1 hj)] at hbj; rw [hblk k (hlive k o2 hk)] at hbk
    exact h.inj j k o1 o2 b sh sh' hj hk hbj hbk
  · intro b n hb
    by_cases hbs : b = w.heap.size
    · subst hbs
      simp only [Env.add, if_true, sz_none h] at hb
      cases ob <;> simp [sizeOfObj] at hb
      exact ⟨_, _, _, (by rw [Array.getElem?_push, if_pos rfl]), hb⟩
    · simp only [Env.add, if_neg hbs] at hb
      obtain ⟨c, el, fz, hc, hn⟩ := h.size b n hb
      exact ⟨c, el, fz, by rw [hold b (hblt hc)]; exact hc, hn⟩
  · intro j b sh hb
    by_cases hji : j = i
    · subst hji; simp [Env.add] at hb; simp; omega
    · rw [hblk j hji] at hb; have := h.bnd j b sh hb; simp; omega
  · intro g hg
    have : g ≠ i := fun hgi => by subst hgi; rw [h.glob g hg] at hi; cases hi
    rw [hblk g this]; exact h.glob g hg
  · intro g l hg hl
    obtain ⟨c, el, fz, hc, hv⟩ := h.gval g l hg hl
    exact ⟨c, el, fz, by rw [hold g (hblt hc)]; exact hc, hv⟩
/-- A block that was made is taken in. -/
theorem Rel.adopt (h : Rel x e S w) {i b : Nat} {o : AObj} {ob : Obj} (hb : e.blk i = some (b, 0)) (hn : S.heap.get i = none) (hG : x.G ≤ i) (hGb : x.G ≤ b) (hw : w.heap[b]? = some ob) (ho : ObjR e o ob 0) (hl : ¬ liesIn S e b) :
    Rel x e { S with heap := S.heap.set i (some o) } w := by
  have hget : ∀ j o2, (S.heap.set i (some o)).get j = some o2 → (j = i ∧ o2 = o) ∨ (j ≠ i ∧ S.heap.get j = some o2) := fun j o2 hj => by
    by_cases hji : j = i
    · subst hji; rw [PT.get_set_same] at hj; cases hj; exact .inl ⟨rfl, rfl⟩
    · rw [PT.get_set_other _ _ _ _ hji] at hj; exact .inr ⟨hji, hj⟩
  refine ⟨h.fresh, ?_, h.next, ?_, ?_, h.size, h.bnd, h.glob, h.gval, h.gsz⟩
  · intro j hj
    show (S.heap.set i (some o)).get j = none
    rw [PT.get_set_other _ _ _ _ (by omega)]; exact h.low j hj
  · intro j o2 hj
    rcases hget j o2 hj with ⟨rfl, rfl⟩ | ⟨_, hj⟩
    · exact ⟨b, 0, ob, hb, hw, ho, hGb⟩
    · exact h.obj j o2 hj
  · intro j k o2 o3 c s2 s3 hj hk hbj hbk
    rcases hget j o2 hj with ⟨hj1, _⟩ | ⟨hjn, hj2⟩ <;> rcases hget k o3 hk with ⟨hk1, _⟩ | ⟨hkn, hk2⟩
    · rw [hj1, hk1]
    · rw [hj1, hb] at hbj; cases hbj; exact absurd ⟨k, o3, s3, hk2, hbk⟩ hl
    · rw [hk1, hb] at hbk; cases hbk; exact absurd ⟨j, o2, s2, hj2, hbj⟩ hl
    · exact h.inj j k o2 o3 c s2 s3 hj2 hk2 hbj hbk
end Go.X
