import Derived.Test.YtofffmieimggmaaGreatDoorXOp6
import Derived.Laws.Append
/-
  Part ten: slices that are made, maps that are turned, append, copy, clear, bytes and strings.
-/
namespace Go.X
open Go
variable {x : Cx} {e : Env} {S : AS} {w : World}

theorem range_times (z : Array Value) (hz : 0 < z.size) : ∀ (len : Nat), ((List.range (len * z.size)).map fun i => z[i % z.size]!) = times len z.toList
  | 0 => by simp [times]
  | n + 1 => by
    rw [times, ← range_times z hz n]
    have h1 : (n + 1) * z.size = z.size + n * z.size := by rw [Nat.add_mul, Nat.one_mul, Nat.add_comm]
    rw [h1, List.range_add, List.map_append, List.map_map]
    congr 1
    · apply List.ext_getElem
      · simp
      · intro i h1 h2
        simp at h1
        simp [Nat.mod_eq_of_lt h1, h1]
    · apply List.map_congr_left
      intro i _
      simp
theorem times_nil : ∀ n, times n [] = []
  | 0 => rfl
  | n + 1 => by rw [times, times_nil n]; rfl
theorem times_length : ∀ (n : Nat) (z : List Value), (times n z).length = n * z.length
  | 0, z => by simp [times]
  | n + 1, z => by rw [times, List.length_append, times_length n, Nat.add_mul, Nat.one_mul, Nat.add_comm]
theorem times_ground : ∀ (n : Nat) {z : List Value}, All2 (VR e) z z → All2 (VR e) (times n z) (times n z)
  | 0, _, _ => trivial
  | n + 1, _, h => All2.append h (times_ground n h)
theorem zero_self {t : TypeId} {z : Value} (h : zeroT x t = some z) : All2 (VR e) (cellsL z) (cellsL z) := by
  have := zero_cells (e := e) h
  rw [← cellsL_eq] at this; exact this
theorem zero_row {t : TypeId} {z : Value} {n len : Nat} (_h : zeroT x t = some z) (hn : (cellsL z).length = n) :
    ((Array.range (len * n)).map (fun i => (if len * n = 0 then (#[] : Array Value) else z.cells)[i % (if len * n = 0 then (#[] : Array Value) else z.cells).size]!)).toList = times len (cellsL z) := by
  have hc : z.cells.size = n := by rw [cellsL_eq, Array.length_toList] at hn; exact hn
  by_cases h0 : len * n = 0
  · rw [h0]
    simp only [Array.toList_map, Array.toList_range, List.range_zero, List.map_nil]
    symm
    rcases Nat.mul_eq_zero.1 h0 with h1 | h1
    · rw [h1]; rfl
    · rw [h1] at hn
      rw [List.eq_nil_of_length_eq_zero hn, times_nil]
  · simp only [h0, if_false, Array.toList_map, Array.toList_range]
    rw [cellsL_eq, ← hc]
    have hpos : 0 < z.cells.size := by rw [hc]; exact Nat.pos_of_ne_zero (fun hh => h0 (by rw [hh, Nat.mul_zero]))
    exact range_times z.cells hpos len
theorem fill_size {place : Nat → Option (Nat × Nat)} : ∀ {l : List (Nat × Value)} {c r : List Value}, fillL place c l = some r → r.length = c.length
  | [], c, r, h => by simp only [fillL, Option.some.injEq] at h; rw [h]
  | (i, v) :: l, c, r, h => by
    simp only [fillL] at h
    split at h
    · cases h
    · split at h
      · cases h
      · split at h
        · rename_i hs
          split at h
          · rename_i hle
            have hs := beq_iff.1 hs
            have hle := ble_iff.1 hle
            rw [fill_size h]
            simp only [List.length_append, List.length_take, List.length_drop]
            simp only [Nat.add_eq] at *
            omega
          · cases h
        · cases h
theorem buildSlice_aux (h : Rel x e S w) {t elem : TypeId} {len n : Nat} {z : Value} {c : List Value} {l m : List (Nat × Value)} (hp : PartsR e l m) (hu : x.P.underlying t = some (.slice elem))
    (hn : sizeT x elem = some n) (hz : zeroT x elem = some z) (hzn : (cellsL z).length = n) (hle : len * n ≤ 16777216) (hlen : len ≤ 16777216)
    (hc : fillL (fun i => some (Nat.mul i n, n)) (times len (cellsL z)) l = some c) :
    Does x e S w (some (.slice (some (here S)) len n, addObj S (.cells c elem true))) (Instr.buildSlice t len m.toArray) := by
  intro v S1 hv
  cases hv
  have hrow := zero_row (len := len) hz hzn
  obtain ⟨r', h1, h2⟩ := fill_ok (c' := (Array.range (len * n)).map (fun i => (if len * n = 0 then (#[] : Array Value) else z.cells)[i % (if len * n = 0 then (#[] : Array Value) else z.cells).size]!)) hp
    (by rw [hrow]; exact times_ground len (zero_self hz)) hc
  have hsz : r'.size = len * n := by
    rw [← Array.length_toList, ← h2.length, fill_size hc, times_length, hzn]
  obtain ⟨e1, _, h3, h4, h5⟩ := new_row h (el := elem) (wh := true) (all2_row h2) (by rw [h2.length]; simp) (fun _ => by rw [h2.length]; simp) (0, 0) (thawed_none _)
  refine ⟨.slice (some ⟨w.heap.size, 0, none⟩) len len, e1, _, ?_, h3, here_slice h4 h5 (Nat.le_refl _) (by simp only [maxLen]; omega) (by omega)⟩
  unfold Instr.buildSlice
  have hnl : ¬ len * n > 2 ^ 24 := by omega
  rw [Sem.run_bind, run_underlying hu, Result.andThen_ok]
  simp only [Sem.run_bind, sizeT_run hn, Result.andThen_ok]
  rw [if_neg hnl]
  by_cases h0 : len * n = 0
  · simp only [h0, if_true] at h1
    simp only [h0, if_true, Sem.run_bind, Sem.run_pure, Result.andThen_ok]
    have h1' : Instr.fill (fun i => some (i * n, n)) ((Array.range 0).map (fun i => (#[] : Array Value)[i % (#[] : Array Value).size]!)) m = some r' := h1
    rw [h1']
    simp only [Sem.run_bind, Go.newRow, run_newObj, Result.andThen_ok, Sem.run_pure]
  · simp only [h0, if_false] at h1
    simp only [h0, if_false, Sem.run_bind, Sem.run_pure, Result.andThen_ok, zeroT_run hz]
    have h1' : Instr.fill (fun i => some (i * n, n)) ((Array.range (len * n)).map (fun i => z.cells[i % z.cells.size]!)) m = some r' := h1
    rw [h1']
    simp only [Sem.run_bind, Go.newRow, run_newObj, Result.andThen_ok, Sem.run_pure]
theorem buildSliceV_ok (h : Rel x e S w) {t : TypeId} {len : Nat} {l m : List (Nat × Value)} (hp : PartsR e l m) : Does x e S w (buildSliceV x t len l S) (Instr.buildSlice t len m.toArray) := by
  intro v S1 hv
  unfold buildSliceV at hv
  split at hv
  · rename_i elem hu
    split at hv
    · rename_i n hn
      split at hv
      · rename_i z hz
        split at hv
        · rename_i hzn
          split at hv
          · rename_i hle
            split at hv
            · rename_i hlen
              split at hv
              · rename_i c hc
                exact buildSlice_aux h hp hu hn hz (beq_iff.1 hzn) (ble_iff.1 hle) (ble_iff.1 hlen) hc v S1 hv
              · cases hv
            · cases hv
          · cases hv
        · cases hv
      · cases hv
    · cases hv
  · cases hv
end Go.X
