import Derived.Test.YtaknejhfphalaaaGreatDoorXOp3
import Derived.Laws.BytesString
import Derived.Lib.UnsafeStr
/-
  Part eight: the operations that look at blocks.
-/
namespace Go.X
open Go
variable {x : Cx} {e : Env} {S : AS} {w : World}

theorem row_ok (h : Rel x e S w) {i b sh : Nat} {c : List Value} (hb : e.blk i = some (b, sh)) (hr : row x S i = some c) :
    ∃ (c' : Array Value) (el : TypeId) (fz : Nat × Nat), w.heap[b]? = some (.cells c' el fz) ∧ ∀ (k : Nat) (v : Value), c[k]? = some v → ∃ v', c'[sh + k]? = some v' ∧ VR e v v' := by
  unfold row at hr
  split at hr
  · rename_i hlt
    have hlt := blt_iff.1 hlt
    rw [h.glob i hlt] at hb; cases hb
    obtain ⟨c', el, fz, h1, h2⟩ := h.gval i c hlt hr
    exact ⟨c', el, fz, h1, fun k v hk => ⟨v, by rw [Nat.zero_add]; exact (h2 k v hk).1, let ⟨d, hd⟩ := (h2 k v hk).2; .ground v d hd⟩⟩
  · split at hr
    · rename_i l el wh hg
      cases hr
      obtain ⟨b', sh', o', h1, h2, h3, _⟩ := h.obj i _ hg
      rw [hb] at h1; cases h1
      cases h3 with
      | cells l el wh c' fz sh hc hf hw hz => exact ⟨c', el, fz, h2, hc⟩
    · cases hr
theorem cell_of {b o : Nat} {c : Array Value} {el : TypeId} {fz : Nat × Nat} (h : w.heap[b]? = some (.cells c el fz)) : w.cell? ⟨b, o, none⟩ = c[o]? := by
  simp [World.cell?, h]
/-- a stretch of a row -/
theorem range_ok {c : List Value} {c' : Array Value} {sh off n : Nat} (hc : ∀ (k : Nat) (v : Value), c[k]? = some v → ∃ v', c'[sh + k]? = some v' ∧ VR e v v') (hn : off + n ≤ c.length) :
    ∃ l', l'.length = n ∧ All2 (VR e) ((c.drop off).take n) l' ∧ ∀ (j : Nat) (v : Value), l'[j]? = some v → c'[sh + off + j]? = some v := by
  refine ⟨(c'.toList.drop (sh + off)).take n, ?_, ?_, ?_⟩
  · have hlen : sh + off + n ≤ c'.size ∨ n = 0 := by
      rcases Nat.eq_zero_or_pos n with h0 | h0
      · exact .inr h0
      · left
        obtain ⟨v', hv', _⟩ := hc (off + n - 1) _ (List.getElem?_eq_getElem (by omega))
        have := (Array.getElem?_eq_some_iff.1 hv').1
        omega
    simp only [List.length_take, List.length_drop, Array.length_toList]
    omega
  · have hlen : sh + off + n ≤ c'.size ∨ n = 0 := by
      rcases Nat.eq_zero_or_pos n with h0 | h0
      · exact .inr h0
      · left
        obtain ⟨v', hv', _⟩ := hc (off + n - 1) _ (List.getElem?_eq_getElem (by omega))
        have := (Array.getElem?_eq_some_iff.1 hv').1
        omega
    refine All2.mk (by simp only [List.length_take, List.length_drop, Array.length_toList]; omega) fun i a b ha hb => ?_
    have hi : i < n := by have := (List.getElem?_eq_some_iff.1 ha).1; simp at this; omega
    rw [List.getElem?_take_of_lt hi, List.getElem?_drop] at ha hb
    obtain ⟨v', hv', hr⟩ := hc _ a ha
    rw [Array.getElem?_toList] at hb
    rw [show sh + off + i = sh + (off + i) by omega] at hb
    rw [hb] at hv'; cases hv'; exact hr
  · intro j v hj
    have hi : j < n := by have := (List.getElem?_eq_some_iff.1 hj).1; simp at this; omega
    rw [List.getElem?_take_of_lt hi, List.getElem?_drop, Array.getElem?_toList] at hj
    exact hj
theorem readCells_ok (h : Rel x e S w) {i b sh off n : Nat} {c : List Value} (hb : e.blk i = some (b, sh)) (hr : readCells x S i off n = some c) :
    ∃ l', l'.length = n ∧ All2 (VR e) c l' ∧ w.rangeAt b (sh + off) l' := by
  unfold readCells at hr
  split at hr
  · rename_i c0 hc0
    split at hr
    · rename_i hle
      cases hr
      obtain ⟨c', el, fz, h1, h2⟩ := row_ok h hb hc0
      obtain ⟨l', h3, h4, h5⟩ := range_ok h2 (ble_iff.1 hle)
      exact ⟨l', h3, h4, fun j v hj => by rw [cell_of h1]; exact h5 j v hj⟩
    · cases hr
  · cases hr
theorem loadV_ok (h : Rel x e S w) {t : TypeId} {a a' : Value} (ha : VR e a a') : Says x e w (loadV x S t a) (Instr.loadAt t a') := by
  intro v hv
  unfold loadV at hv
  split at hv
  · rename_i p
    obtain ⟨b, sh, hb, hsp, rfl⟩ := ha.ptr_inv
    unfold loadAt at hv
    split at hv
    · cases hv
    · split at hv
      · cases hv
      · rename_i c hc
        split at hv
        · rename_i hag
          split at hv
          · rename_i n hn
            split at hv
            · rename_i hle
              cases hv
              obtain ⟨c', el, fz, h1, h2⟩ := row_ok h hb hc
              obtain ⟨l', h3, h4, h5⟩ := range_ok h2 (ble_iff.1 hle)
              refine ⟨.agg l'.toArray, ?_, .mkAgg h4⟩
              have hd : ∃ d, x.P.underlying t = some d ∧ d.isRow = true := by
                unfold isAggT at hag
                split at hag
                · exact ⟨_, by assumption, rfl⟩
                · exact ⟨_, by assumption, rfl⟩
                · cases hag
                · cases hag
              obtain ⟨d, hd1, hd2⟩ := hd
              have hi : (x.P.info? t).map (·.size) = some l'.length := by
                unfold sizeT at hn
                cases hq : x.P.info? t with
                | none => simp [hq] at hn
                | some i => simp [hq] at hn ⊢; omega
              exact run_loadAt_mid w b (sh + p.off) t l' d (fun j v hj => by rw [cell_of h1]; exact h5 j v hj) hd1 hd2 hi
            · cases hv
          · cases hv
        · rename_i hag
          rw [nth_eq] at hv
          obtain ⟨c', el, fz, h1, h2⟩ := row_ok h hb hc
          obtain ⟨v', h3, h4⟩ := h2 _ _ hv
          refine ⟨v', ?_, h4⟩
          have hce : w.cell? ⟨b, sh + p.off, none⟩ = some v' := by rw [cell_of h1]; exact h3
          simp only [Instr.loadAt, Instr.sureAddr, loadVar, Sem.run_bind, Sem.run_pure, Result.andThen_ok, isAggT_run hag, Bool.false_eq_true, if_false, run_load, hce]
        · cases hv
  · cases hv
/-! maps -/
theorem bytes_beq (s r : ByteArray) : (s == r) = bytesEq s.data.toList r.data.toList := by
  cases s with | mk s => cases r with | mk r =>
  show (s == r) = _
  rw [bytesEq_eq, Bool.eq_iff_iff, beq_iff_eq, beq_iff_eq]
  exact ⟨fun h => by rw [h], fun h => Array.toList_inj.1 h⟩
theorem sameKey_now {d : TypeDesc} {k k' : Value} {r : Bool} (h : sameKey d k k' = some r) : Instr.sameNow d k k' = some r := by
  unfold sameKey at h
  split at h
  · split at h
    · split at h
      · split at h
        · rename_i hk; cases h
          have := kn_inj hk; subst this
          simp [Instr.sameNow, eqI_eq]
        · cases h
      · cases h
    · cases h
  · split at h
    · split at h
      · cases h
        simp [Instr.sameNow, bytes_beq]
      · cases h
    · cases h
  · split at h
    · split at h
      · cases h; simp [Instr.sameNow]
      · cases h
    · cases h
  · cases h
/-- entries, the executor's and the model's -/
def EntR (e : Env) (m m' : MapEntry) : Prop := m'.key = m.key ∧ m'.born = m.born ∧ VR e m.val m'.val
theorem findE_ok {d : TypeDesc} {k : Value} : ∀ {es es' : List MapEntry} {i : Nat} {r : Option (Nat × Value)}, All2 (EntR e) es es' → findE d k es i = some r →
    (r = none ∧ Instr.findNow d k es' i = some none) ∨ (∃ j v v', r = some (j, v) ∧ Instr.findNow d k es' i = some (some (j, v')) ∧ VR e v v' ∧ i ≤ j ∧ j - i < es.length ∧ ∃ m, es[j - i]? = some m ∧ sameKey d k m.key = some true)
  | [], [], i, r, _, h => by simp only [findE, Option.some.injEq] at h; subst h; exact .inl ⟨rfl, rfl⟩
  | [], _ :: _, _, _, h, _ => h.elim
  | _ :: _, [], _, _, h, _ => h.elim
  | m :: es, m' :: es', i, r, hh, h => by
    simp only [findE] at h
    split at h
    · rename_i hs
      cases h
      refine .inr ⟨i, m.val, m'.val, rfl, ?_, hh.1.2.2, Nat.le_refl _, by simp, m, by simp, hs⟩
      rw [← hh.1.1] at hs
      simp [Instr.findNow, sameKey_now hs]
    · rename_i hs
      rw [← hh.1.1] at hs
      have hn : Instr.findNow d k (m' :: es') i = Instr.findNow d k es' (i + 1) := by simp [Instr.findNow, sameKey_now hs]
      rcases findE_ok hh.2 h with ⟨h1, h2⟩ | ⟨j, v, v', h1, h2, h3, h4, h5, m2, h6, h7⟩
      · exact .inl ⟨h1, by rw [hn]; exact h2⟩
      · refine .inr ⟨j, v, v', h1, by rw [hn]; exact h2, h3, by omega, by simp; omega, m2, ?_, h7⟩
        rw [show j - i = (j - Nat.succ i) + 1 by omega]; exact h6
    · cases h
theorem keyKind_ok {t : TypeId} {d : TypeDesc} (h : keyKind x t = some d) : x.P.underlying t = some d ∧ ((∃ k, d = .int k) ∨ d = .string ∨ d = .bool) := by
  unfold keyKind at h
  split at h
  · rename_i k hu; cases h; exact ⟨hu, .inl ⟨k, rfl⟩⟩
  · rename_i hu; cases h; exact ⟨hu, .inr (.inl rfl)⟩
  · rename_i hu; cases h; exact ⟨hu, .inr (.inr rfl)⟩
  · cases h
theorem checkKey_run {t : TypeId} {d : TypeDesc} {k : Value} {em : Bool} {n : Nat} (hu : x.P.underlying t = some d) (hd : (∃ k, d = .int k) ∨ d = .string ∨ d = .bool) :
    (Instr.checkKey em (n + 1) t k).run x.P w = .ok () w := by
  unfold Instr.checkKey
  rw [Sem.run_bind, run_underlying hu, Result.andThen_ok]
  rcases hd with ⟨k, rfl⟩ | rfl | rfl <;> rfl
theorem keyOk_inv {d : TypeDesc} {k k' : Value} (h : keyOk d k = true) (hk : VR e k k') : k' = k := by
  unfold keyOk at h
  split at h
  · rename_i r hr
    unfold sameKey at hr
    split at hr
    · split at hr
      · exact hk.int_inv
      · cases hr
    · split at hr
      · exact hk.string_inv
      · cases hr
    · split at hr
      · exact hk.bool_inv
      · cases hr
    · cases hr
  · cases h
theorem map_obj (h : Rel x e S w) {r b sh : Nat} {es : List MapEntry} {ck : Nat} (hb : e.blk r = some (b, sh)) (hg : S.heap.get r = some (.map es ck)) :
    ∃ es' : Array MapEntry, w.heap[b]? = some (.map es' ck) ∧ All2 (EntR e) es es'.toList := by
  obtain ⟨b', sh', o', h1, h2, h3, _⟩ := h.obj r _ hg
  rw [hb] at h1; cases h1
  cases h3 with
  | map _ es' ck hh => exact ⟨es', h2, hh⟩
theorem getObj_map {b : Nat} {es' : Array MapEntry} {ck : Nat} (h : w.heap[b]? = some (.map es' ck)) : (getObj b).run x.P w = .ok (.map es' ck) w := by
  simp [getObj, Sem.run, h]
theorem lookupV_ok (h : Rel x e S w) {t : TypeId} {m k m' k' : Value} {ok : Bool} (hm : VR e m m') (hk : VR e k k') :
    Says x e w (lookupV x t m k ok S) (Instr.lookup t m' k' ok) := by
  intro v hv
  obtain ⟨n0, hn0⟩ : ∃ n, (10000 : Nat) = n + 1 := ⟨9999, rfl⟩
  unfold lookupV at hv
  unfold Instr.lookup
  split at hv
  · rename_i r
    obtain ⟨b, sh, hb, rfl⟩ := hm.map_inv
    split at hv
    · rename_i es ck hg
      obtain ⟨es', hw, hes⟩ := map_obj h hb hg
      split at hv
      · rename_i key elem hu
        split at hv
        · rename_i kd hkd
          split at hv
          · cases hv
          · rename_i hok
            have := keyOk_inv hok hk; subst this
            obtain ⟨hku, hkk⟩ := keyKind_ok hkd
            split at hv
            · rename_i z hz
              split at hv
              · rename_i i u hfe
                cases hv
                rcases findE_ok hes hfe with ⟨h1, _⟩ | ⟨j, u1, u', h1, h2, h3, _⟩
                · cases h1
                · cases h1
                  refine ⟨_, ?_, okV_ok h3⟩
                  simp only [Sem.run_bind, run_underlying hu, Result.andThen_ok, getObj_map hw, Sem.run_pure]
                  rw [hn0, checkKey_run hku hkk]
                  simp only [Result.andThen_ok, Instr.findKey, Sem.run_bind, run_underlying hku, h2, Sem.run_pure]
              · rename_i hfe
                cases hv
                rcases findE_ok hes hfe with ⟨_, h2⟩ | ⟨j, u1, u', h1, _⟩
                · refine ⟨_, ?_, okV_ok (.ground z 12 (zeroT_ground hz))⟩
                  simp only [Sem.run_bind, run_underlying hu, Result.andThen_ok, getObj_map hw, Sem.run_pure]
                  rw [hn0, checkKey_run hku hkk]
                  simp only [Result.andThen_ok, Instr.findKey, Sem.run_bind, run_underlying hku, h2, Sem.run_pure, zeroT_run hz]
                · cases h1
              · cases hv
            · cases hv
        · cases hv
      · cases hv
    · cases hv
  · rw [hm.map0_inv]
    split at hv
    · rename_i key elem hu
      split at hv
      · rename_i kd hkd
        split at hv
        · cases hv
        · rename_i hok
          have := keyOk_inv hok hk; subst this
          obtain ⟨hku, hkk⟩ := keyKind_ok hkd
          split at hv
          · rename_i z hz
            cases hv
            refine ⟨_, ?_, okV_ok (.ground z 12 (zeroT_ground hz))⟩
            simp only [Sem.run_bind, run_underlying hu, Result.andThen_ok, Sem.run_pure]
            rw [hn0, checkKey_run hku hkk]
            simp only [Result.andThen_ok, Instr.findKey, Sem.run_bind, run_underlying hku, Instr.findNow, Sem.run_pure, zeroT_run hz]
          · cases hv
      · cases hv
    · cases hv
  · cases hv

/-! bytes -/
theorem bytesOf_ok : ∀ {l l' : List Value} {b : List UInt8}, All2 (VR e) l l' → bytesOf l = some b → l' = b.map (fun y => Value.int .u8 y.toNat)
  | [], [], b, _, h => by simp only [bytesOf, Option.some.injEq] at h; subst h; rfl
  | [], _ :: _, _, h, _ => h.elim
  | _ :: _, [], _, h, _ => h.elim
  | v :: l, v' :: l', b, hh, h => by
    simp only [bytesOf] at h
    split at h
    · rename_i n
      split at h
      · rename_i hlt
        split at h
        · rename_i r hr
          cases h
          have h1 : v' = .int .u8 (.ofNat n) := VR.int_inv hh.1
          rw [bytesOf_ok hh.2 hr, h1, List.map_cons]
          congr 2
          have := blt_iff.1 hlt
          simp; omega
        · cases h
      · cases h
    · cases h
theorem bytesAt_ok (h : Rel x e S w) {a : Addr} {b sh n : Nat} {l : List UInt8} (hb : e.blk a.block = some (b, sh)) (hr : bytesAt x a n S = some l) :
    l.length = n ∧ ∀ (j : Nat) (y : UInt8), l[j]? = some y → w.cell? ⟨b, sh + a.off + j, none⟩ = some (.int .u8 y.toNat) := by
  unfold bytesAt at hr
  split at hr
  · cases hr
  · split at hr
    · rename_i c hc
      obtain ⟨l', h1, h2, h3⟩ := readCells_ok h hb hc
      have h4 := bytesOf_ok h2 hr
      subst h4
      refine ⟨by simpa using h1, fun j y hy => ?_⟩
      exact h3 j _ (by simp [hy])
    · cases hr
theorem foldl_push : ∀ (l : List UInt8) (s : ByteArray), (l.map (fun y : UInt8 => (y.toNat : Int))).foldl (fun r n => r.push (UInt8.ofNat n.toNat)) s = ⟨s.data ++ l.toArray⟩
  | [], s => by cases s; simp
  | y :: l, s => by
    rw [List.map_cons, List.foldl_cons, foldl_push l]
    apply ByteArray.ext
    simp [ByteArray.push]
theorem strOf_ok (h : Rel x e S w) {a : Addr} {b sh cc n : Nat} (hb : e.blk a.block = some (b, sh)) :
    Says x e w (strOf x a n S) (Conv.bytesToString (.slice (some ⟨b, sh + a.off, none⟩) n cc)) := by
  intro v hv
  unfold strOf at hv
  split at hv
  · rename_i l hl
    cases hv
    obtain ⟨h1, h2⟩ := bytesAt_ok h hb hl
    refine ⟨_, ?_, .string _⟩
    have hlc := run_loadCells_list (P := x.P) w ⟨b, sh + a.off, none⟩ ((l.map (fun y : UInt8 => (y.toNat : Int))).map (Value.int .u8)) (fun j v hj => by
      rw [add_mk]
      simp only [List.map_map, List.getElem?_map, Option.map_eq_some_iff] at hj
      obtain ⟨y, hy, rfl⟩ := hj
      exact h2 j y hy)
    rw [List.length_map, List.length_map, h1] at hlc
    rw [run_bytesToString w _ n cc (l.map (fun y : UInt8 => (y.toNat : Int))) hlc, foldl_push]
    congr 3
    apply Array.ext'
    simp
  · cases hv
/-! unsafe pointers -/
theorem whole_obj (h : Rel x e S w) {i b sh : Nat} {c : List Value} {el : TypeId} (hb : e.blk i = some (b, sh)) (hg : S.heap.get i = some (.cells c el true)) :
    sh = 0 ∧ w.shape? b = some (el, c.length) := by
  obtain ⟨b', sh', o', h1, h2, h3, _⟩ := h.obj i _ hg
  rw [hb] at h1; cases h1
  cases h3 with
  | cells l el wh c' fz sh hc hf hw hz =>
    obtain ⟨h4, h5⟩ := hw rfl
    exact ⟨h4, by simp [World.shape?, h2, h5]⟩
theorem seenAt_run {b o : Nat} {s : TypeId × Nat} (h : w.shape? b = some s) : (Conv.seenAt ⟨b, o, none⟩).run x.P w = .ok ⟨b, o, none⟩ w := by
  have hv : (viewAt b).run x.P w = .ok none w := by simp [viewAt, h]
  unfold Conv.seenAt
  rw [Sem.run_bind, hv]; rfl
theorem toUnsafe_ok (h : Rel x e S w) {src dst t : TypeId} {a : Addr} {a' : Value} (ha : VR e (.pointer (some a)) a') (hs : x.P.underlying src = some (.pointer t)) (hd : x.P.underlying dst = some .unsafePointer) :
    Says x e w (toUnsafe x t a S) (Conv.unsafePointer src dst a') := by
  intro v hv
  obtain ⟨b, sh, hb, hsp, rfl⟩ := ha.ptr_inv
  unfold toUnsafe at hv
  split at hv
  · cases hv
  · split at hv
    · rename_i c el hg
      obtain ⟨rfl, hshp⟩ := whole_obj h hb hg
      split at hv
      · rename_i n hn
        split at hv
        · rename_i hlt
          cases hv
          have hlt := blt_iff.1 hlt
          refine ⟨_, ?_, ha⟩
          unfold Conv.unsafePointer
          have hci : (cellsIn b).run x.P w = .ok (some c.length) w := by simp [cellsIn, hshp]
          simp only [Sem.run_bind, run_underlying hs, run_underlying hd, Result.andThen_ok, seenAt_run hshp, hci, sizeT_run hn, Nat.add_one_ne_zero, decide_false, Bool.false_or, Option.isNone_none, Bool.and_true]
          rw [if_neg (by simp; omega)]
          rfl
        · cases hv
      · cases hv
    · cases hv
theorem fromUnsafe_ok (h : Rel x e S w) {src dst u : TypeId} {a : Addr} {a' : Value} (ha : VR e (.pointer (some a)) a') (hs : x.P.underlying src = some .unsafePointer) (hd : x.P.underlying dst = some (.pointer u))
    {n : Nat} (hz : sizeT x u = some n) :
    Says x e w (fromUnsafe x u a S) (Conv.unsafePointer src dst a') := by
  intro v hv
  obtain ⟨b, sh, hb, hsp, rfl⟩ := ha.ptr_inv
  unfold fromUnsafe at hv
  split at hv
  · cases hv
  · split at hv
    · rename_i c el hg
      obtain ⟨rfl, hshp⟩ := whole_obj h hb hg
      split at hv
      · rename_i hl
        cases hv
        refine ⟨_, ?_, ha⟩
        unfold Conv.unsafePointer
        have hva : (variablesAt ⟨b, 0 + a.off, none⟩ u 1).run x.P w = .ok true w := by
          simp [variablesAt, hshp, hl]
        simp only [Sem.run_bind, run_underlying hs, run_underlying hd, Result.andThen_ok, seenAt_run hshp, sizeT_run hz, hva, Bool.or_true, if_true, Sem.run_pure]
      · cases hv
    · cases hv
theorem mapLen_ok (h : Rel x e S w) {r b sh : Nat} (hb : e.blk r = some (b, sh)) {t : TypeId} {k el : TypeId} (hu : x.P.underlying t = some (.map k el)) {ts : List TypeId} {args : List Value} {ty : TypeId} :
    Says x e w (mapLen r S) (Builtin.len_ (t :: ts).toArray ty (.map (some b) :: args).toArray) := by
  intro v hv
  unfold mapLen at hv
  split at hv
  · rename_i es ck hg
    cases hv
    obtain ⟨es', hw, hes⟩ := map_obj h hb hg
    refine ⟨_, ?_, .int _ _⟩
    unfold Builtin.len_
    simp only [List.getElem?_toArray, List.getElem?_cons_zero, Sem.run_bind, run_underlying hu, Result.andThen_ok, getObj_map hw, Sem.run_pure]
    have := hes.length
    simp only [goInt]
    rw [← Array.length_toList, ← this]; rfl
  · cases hv
end Go.X
