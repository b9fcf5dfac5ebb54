import Derived.Test.YtofffmieimggmaaGreatDoorXOp3
/-
  Part seven: what is built; conversions and lengths.
-/
namespace Go.X
open Go
variable {x : Cx} {e : Env} {S : AS} {w : World}

theorem foldl_putL (cells : Array Value) (off : Nat) (vs : List Value) (n : Nat) :
    (vs.zipIdx n).foldl (fun cs (p : Value × Nat) => cs.setIfInBounds (off + p.2) p.1) cells = putL cells (off + n) vs := by
  induction vs generalizing cells n with
  | nil => rfl
  | cons v r ih =>
    rw [List.zipIdx_cons, List.foldl_cons, putL, ih]
    rfl
theorem putL_toList : ∀ (vs : List Value) (c : Array Value) (o : Nat), o + vs.length ≤ c.size → (putL c o vs).toList = c.toList.take o ++ (vs ++ c.toList.drop (o + vs.length)) := by
  intro vs c o h
  apply List.ext_getElem?
  intro k
  have hs := putL_size vs c o
  rcases Nat.lt_or_ge k o with h1 | h1
  · rw [List.getElem?_append_left (by simp; omega), List.getElem?_take_of_lt h1]
    have := putL_out vs c o k (.inl h1)
    simpa using this
  · rw [List.getElem?_append_right (by simp; omega)]
    simp only [List.length_take, Array.length_toList]
    rw [Nat.min_eq_left (by omega)]
    rcases Nat.lt_or_ge k (o + vs.length) with h2 | h2
    · rw [List.getElem?_append_left (by omega)]
      have := putL_in vs c o (k - o) h (by omega)
      rw [show o + (k - o) = k by omega] at this
      simpa using this
    · rw [List.getElem?_append_right (by omega), List.getElem?_drop]
      have := putL_out vs c o k (.inr h2)
      rw [show o + vs.length + (k - o - vs.length) = k by omega]
      simpa using this
/-- parts, the executor's and the model's -/
def PartsR (e : Env) (l : List (Nat × Value)) (m : List (Nat × Value)) : Prop := All2 (fun p q : Nat × Value => q.1 = p.1 ∧ VR e p.2 q.2) l m
theorem fill_ok {place : Nat → Option (Nat × Nat)} : ∀ {l m : List (Nat × Value)} {c r : List Value} {c' : Array Value}, PartsR e l m → All2 (VR e) c c'.toList → fillL place c l = some r →
    ∃ r', Instr.fill place c' m = some r' ∧ All2 (VR e) r r'.toList
  | [], [], c, r, c', _, hc, h => by simp only [fillL, Option.some.injEq] at h; subst h; exact ⟨c', rfl, hc⟩
  | [], _ :: _, _, _, _, h, _, _ => h.elim
  | _ :: _, [], _, _, _, h, _, _ => h.elim
  | (i, v) :: l, (i', v') :: m, c, r, c', hp, hc, h => by
    obtain ⟨⟨rfl, hv⟩, hp⟩ := hp
    simp only [fillL] at h
    split at h
    · cases h
    · rename_i hu
      split at h
      · cases h
      · rename_i off size hpl
        split at h
        · rename_i hs
          split at h
          · rename_i hle
            have hs := beq_iff.1 hs
            have hle : off + size ≤ c.length := ble_iff.1 hle
            have hv : VR e v v' := hv
            have hcl := hc.length
            have hvc := hv.cells hu
            rw [cellsL_eq] at h hs
            have hvl := hvc.length
            have hsz : v'.cells.size = size := by rw [← Array.length_toList]; omega
            have hcs : c'.size = c.length := by rw [← Array.length_toList]; omega
            have hfold : (v'.cells.zipIdx.foldl (fun cs (p : Value × Nat) => cs.setIfInBounds (off + p.2) p.1) c') = putL c' off v'.cells.toList := by
              rw [← Array.foldl_toList, Array.toList_zipIdx]
              have := foldl_putL c' off v'.cells.toList 0
              simpa using this
            have hnew : All2 (VR e) (c.take off ++ (v.cells.toList ++ c.drop (Nat.add off size))) (putL c' off v'.cells.toList).toList := by
              rw [putL_toList _ _ _ (by rw [Array.length_toList]; omega)]
              refine All2.append (hc.take off) (All2.append hvc ?_)
              have : off + v'.cells.toList.length = Nat.add off size := by rw [Array.length_toList, hsz]; rfl
              rw [this]; exact hc.drop _
            obtain ⟨r', h1, h2⟩ := fill_ok hp hnew h
            refine ⟨r', ?_, h2⟩
            rw [Instr.fill, hpl]
            simp only [hsz, ne_eq, not_true_eq_false, decide_false, Bool.false_or]
            rw [if_neg (by simp; omega)]
            rw [← h1, ← hfold]
          · cases h
        · cases h
theorem places_run : ∀ {l : List Field} {ps : List (Nat × Nat)}, places x l = some ps →
    (l.mapM (fun f => do pure (f.offset, ← sizeOf f.type) : Field → Sem (Nat × Nat))).run x.P w = .ok ps w
  | [], ps, h => by simp only [places, Option.some.injEq] at h; subst h; rfl
  | f :: l, ps, h => by
    simp only [places] at h
    split at h
    · rename_i n hn
      split at h
      · rename_i r hr
        cases h
        rw [List.mapM_cons]
        simp only [Sem.run_bind, sizeT_run hn, Result.andThen_ok, Sem.run_pure, places_run hr]
      · cases h
    · cases h
theorem All2.ground {c : List Value} {d : Nat} (h : ∀ v ∈ c, Go.X.ground d v = true) : All2 (VR e) c c := All2.refl fun v hv => .ground v d (h v hv)
theorem ground_unk {v : Value} {d : Nat} (h : ground d v = true) : isUnk v = false := by
  cases v <;> first | rfl | skip
  rename_i r
  cases r with
  | none => rfl
  | some r => cases d <;> simp [ground] at h
theorem zero_cells {t : TypeId} {z : Value} (h : zeroT x t = some z) : All2 (VR e) (cellsL z) z.cells.toList := by
  rw [cellsL_eq]
  exact VR.cells (.ground z 12 (zeroT_ground h)) (ground_unk (zeroT_ground h))
theorem buildV_ok {t : TypeId} {l m : List (Nat × Value)} (hp : PartsR e l m) : Says x e w (buildV x t l) (Instr.build t m.toArray) := by
  intro v h
  unfold buildV at h
  split at h
  · cases h
  · rename_i z hz
    unfold Instr.build
    simp only [Sem.run_bind, zeroT_run hz, Result.andThen_ok]
    split at h
    · rename_i fields hu
      split at h
      · rename_i ps hps
        unfold aggO at h
        split at h
        · rename_i c hc
          cases h
          obtain ⟨r', h1, h2⟩ := fill_ok (c' := z.cells) hp (zero_cells hz) hc
          have hpl : (nth ps) = (ps.toArray[·]?) := by funext i; rw [nth_eq]; simp
          rw [hpl] at h1
          refine ⟨.agg r', ?_, ?_⟩
          · have hmap : (fields.mapM (fun f => do pure (f.offset, ← sizeOf f.type) : Field → Sem (Nat × Nat))).run x.P w = .ok ps.toArray w := by
              rw [Array.mapM_eq_mapM_toList]
              simp only [Sem.run_map, places_run hps, Result.andThen_ok]
            simp only [run_underlying hu, Result.andThen_ok, Sem.run_bind, hmap, h1, Sem.run_pure]
          · have := VR.mkAgg h2; simpa using this
        · cases h
      · cases h
    · rename_i n elem hu
      split at h
      · rename_i sz hsz
        unfold aggO at h
        split at h
        · rename_i c hc
          cases h
          obtain ⟨r', h1, h2⟩ := fill_ok (c' := z.cells) hp (zero_cells hz) hc
          refine ⟨.agg r', ?_, ?_⟩
          · simp only [run_underlying hu, Result.andThen_ok, Sem.run_bind, sizeT_run hsz]
            have h1' : Instr.fill (fun i => some (i * sz, sz)) z.cells m = some r' := h1
            simp only [h1', Sem.run_pure]
          · have := VR.mkAgg h2; simpa using this
        · cases h
      · cases h
    · cases h
end Go.X
