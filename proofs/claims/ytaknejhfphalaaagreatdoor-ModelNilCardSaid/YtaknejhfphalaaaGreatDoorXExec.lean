import Derived.Test.YtaknejhfphalaaaGreatDoorXVal
/-
  An executor of the model's code, part two: what it does (no proof here).
-/
namespace Go.X
open Go

/-- a block as the executor sees it: cells (and of what type the block is; is the block just these cells?), a map, the block for a loop's deferred calls, a loop over a function -/
inductive AObj where
  | cells (c : List Value) (elem : TypeId) (whole : Bool)
  | map (es : List MapEntry) (clock : Nat)
  | deferred
  | loop (st : LoopState) (pend : Option Code) (N : Nat) (tmps : PT Value) (params : List Nat) (assign body : Code)
  | iter (m since : Nat) (seen : List Nat) (last : Nat)
structure AS where
  heap : PT AObj
  next : Nat
structure Cx where
  P : Program
  G : Nat
  gt : Nat → Option (List Value)
  quiet : Nat → Bool
  multi : Nat → Bool
  spread : Nat → Bool
abbrev Fr := PT Value

noncomputable def pureRun (P : Program) {α : Type} : Sem α → Option α
  | .pure a => some a
  | .program k => pureRun P (k P)
  | .mark _ k => pureRun P k
  | .choose q k => match q.forced with
    | true => pureRun P (k 0)
    | false => none
  | _ => none
noncomputable def nth {α : Type} (l : List α) : Nat → Option α :=
  List.rec (motive := fun _ => Nat → Option α) (fun _ => none) (fun a _ ih i => Nat.rec (motive := fun _ => Option α) (some a) (fun j _ => ih j) i) l
noncomputable def ground6 (v : Value) : Bool :=
  match v with
  | .int _ _ | .bool _ | .string _ | .pointer none | .nilFunc | .nilIface => true
  | v => ground 8 v
noncomputable def tmp0 (f : Fr) (t : Nat) : Value :=
  match f.get t with
  | some v => v
  | none => undef
noncomputable def ev (x : Cx) (f : Fr) (o : Operand) : Value :=
  match o with
  | .tmp t => match f.get t with
    | some v => v
    | none => undef
  | .const v => match ground6 v with
    | true => v
    | false => unk
  | .global g => match Nat.blt g x.G with
    | true => .pointer (some ⟨g, 0, none⟩)
    | false => unk
  | .func g => .func (.func g) #[] #[]
noncomputable def evs (x : Cx) (f : Fr) (l : List Operand) : List Value :=
  List.rec (motive := fun _ => List Value) [] (fun o _ ih => ev x f o :: ih) l
noncomputable def evParts (x : Cx) (f : Fr) : List (Nat × Operand) → List (Nat × Value)
  | [] => []
  | (i, o) :: l => (i, ev x f o) :: evParts x f l

/-- the cells of a row -/
noncomputable def row (x : Cx) (S : AS) (i : Nat) : Option (List Value) :=
  match Nat.blt i x.G with
  | true => x.gt i
  | false => match S.heap.get i with
    | some (.cells c _ _) => some c
    | _ => none
noncomputable def readCells (x : Cx) (S : AS) (i off n : Nat) : Option (List Value) :=
  match row x S i with
  | some c => match Nat.ble (Nat.add off n) c.length with
    | true => some ((c.drop off).take n)
    | false => none
  | none => none
noncomputable def isAggT (x : Cx) (t : TypeId) : Option Bool :=
  match x.P.underlying t with
  | some (.struct _) | some (.array _ _) => some true
  | some _ => some false
  | none => none
noncomputable def sizeT (x : Cx) (t : TypeId) : Option Nat :=
  match x.P.info? t with
  | some i => some i.size
  | none => none
noncomputable def zeroT (x : Cx) (t : TypeId) : Option Value :=
  match x.P.info? t with
  | some i => match i.zero with
    | some z => match ground 12 z with
      | true => some z
      | false => none
    | none => none
  | none => none
noncomputable def loadAt (x : Cx) (S : AS) (t : TypeId) (a : Addr) : Option Value :=
  match a.spot with
  | some _ => none
  | none => match row x S a.block with
    | none => none
    | some c => match isAggT x t with
      | some true => match sizeT x t with
        | some n => match Nat.ble (Nat.add a.off n) c.length with
          | true => some (.agg ((c.drop a.off).take n).toArray)
          | false => none
        | none => none
      | some false => nth c a.off
      | none => none
noncomputable def loadV (x : Cx) (S : AS) (t : TypeId) (a : Value) : Option Value :=
  match a with
  | .pointer (some a) => loadAt x S t a
  | _ => none
noncomputable def flat (v : Value) : Bool :=
  match v with
  | .agg _ | .tuple _ | .chan _ => false
  | _ => true
noncomputable def flats (l : List Value) : Bool :=
  List.rec (motive := fun _ => Bool) true (fun v _ ih => Bool.rec (motive := fun _ => Bool) false ih (flat v)) l
noncomputable def cellsL (v : Value) : List Value :=
  match v with
  | .agg c => c.toList
  | v => [v]
noncomputable def putCells (x : Cx) (S : AS) (i off : Nat) (vs : List Value) : Option AS :=
  match Nat.blt i x.G with
  | true => none
  | false => match S.heap.get i with
    | some (.cells c e b) => match flats vs with
      | true => match Nat.ble (Nat.add off vs.length) c.length with
        | true => some { S with heap := S.heap.set i (some (.cells (c.take off ++ (vs ++ c.drop (Nat.add off vs.length))) e b)) }
        | false => none
      | false => none
    | _ => none
noncomputable def storeV (x : Cx) (S : AS) (t : TypeId) (a v : Value) : Option (Value × AS) :=
  match a with
  | .pointer (some a) => match a.spot with
    | some _ => none
    | none => match sizeT x t with
      | some n => match Nat.beq (cellsL v).length n with
        | true => match putCells x S a.block a.off (cellsL v) with
          | some S => some (undef, S)
          | none => none
        | false => none
      | none => none
  | _ => none
noncomputable def addObj (S : AS) (o : AObj) : AS := { heap := S.heap.set S.next (some o), next := Nat.succ S.next }
noncomputable def here (S : AS) : Addr := ⟨S.next, 0, none⟩
noncomputable def allocV (x : Cx) (t : TypeId) (S : AS) : Option (Value × AS) :=
  match zeroT x t with
  | some z => some (.pointer (some (here S)), addObj S (.cells (cellsL z) t true))
  | none => none
noncomputable def boxV (t : TypeId) (v : Value) (S : AS) : Option (Value × AS) :=
  match isUnk v with
  | true => none
  | false => some (.pointer (some (here S)), addObj S (.cells (cellsL v) t true))

noncomputable def fillL (place : Nat → Option (Nat × Nat)) (cells : List Value) : List (Nat × Value) → Option (List Value)
  | [] => some cells
  | (i, v) :: rest =>
    match isUnk v with
    | true => none
    | false => match place i with
      | none => none
      | some (off, size) => match Nat.beq (cellsL v).length size with
        | true => match Nat.ble (Nat.add off size) cells.length with
          | true => fillL place (cells.take off ++ (cellsL v ++ cells.drop (Nat.add off size))) rest
          | false => none
        | false => none
noncomputable def places (x : Cx) : List Field → Option (List (Nat × Nat))
  | [] => some []
  | f :: l => match sizeT x f.type with
    | some n => match places x l with
      | some r => some ((f.offset, n) :: r)
      | none => none
    | none => none
noncomputable def aggO : Option (List Value) → Option Value
  | some c => some (.agg c.toArray)
  | none => none
noncomputable def buildV (x : Cx) (t : TypeId) (parts : List (Nat × Value)) : Option Value :=
  match zeroT x t with
  | none => none
  | some z =>
    match x.P.underlying t with
    | some (.struct fields) => match places x fields.toList with
      | some ps => aggO (fillL (nth ps) (cellsL z) parts)
      | none => none
    | some (.array _ elem) => match sizeT x elem with
      | some n => aggO (fillL (fun i => some (Nat.mul i n, n)) (cellsL z) parts)
      | none => none
    | _ => none
/-- n times the cells of z -/
noncomputable def times : Nat → List Value → List Value
  | 0, _ => []
  | n + 1, z => z ++ times n z
noncomputable def buildSliceV (x : Cx) (t : TypeId) (len : Nat) (parts : List (Nat × Value)) (S : AS) : Option (Value × AS) :=
  match x.P.underlying t with
  | some (.slice elem) => match sizeT x elem with
    | some n => match zeroT x elem with
      | some z => match Nat.beq (cellsL z).length n with
        | true => match Nat.ble (Nat.mul len n) 16777216 with
          | true => match Nat.ble len 16777216 with
            | true => match fillL (fun i => some (Nat.mul i n, n)) (times len (cellsL z)) parts with
              | some c => some (.slice (some (here S)) len n, addObj S (.cells c elem true))
              | none => none
            | false => none
          | false => none
        | false => none
      | none => none
    | none => none
  | _ => none
noncomputable def natOf (v : Value) : Option Nat :=
  match v with
  | .int _ (.ofNat n) => some n
  | _ => none
noncomputable def makeSliceV (x : Cx) (t : TypeId) (l c : Value) (S : AS) : Option (Value × AS) :=
  match natOf l with
  | none => none
  | some l => match natOf c with
    | none => none
    | some c => match x.P.underlying t with
      | some (.slice elem) => match x.P.info? elem with
        | some info => match zeroT x elem with
          | some z => match Nat.beq (cellsL z).length info.size with
            | true => match Nat.ble l c with
              | true => match Nat.ble (Nat.add c info.bytes) 65536 with
                | true => some (.slice (some (here S)) l info.size, addObj S (.cells (times c (cellsL z)) elem true))
                | false => none
              | false => none
            | false => none
          | none => none
        | none => none
      | _ => none
noncomputable def partV (x : Cx) (t : TypeId) (cs : List Value) (off : Nat) : Option Value :=
  match isAggT x t with
  | some true => match sizeT x t with
    | some n => match Nat.ble (Nat.add off n) cs.length with
      | true => some (.agg ((cs.drop off).take n).toArray)
      | false => none
    | none => none
  | some false => nth cs off
  | none => none
noncomputable def fieldV (x : Cx) (t : TypeId) (v : Value) (i : Nat) : Option Value :=
  match v with
  | .agg cs => match x.P.underlying t with
    | some (.struct fields) => match nth fields.toList i with
      | some f => partV x f.type cs.toList f.offset
      | none => none
    | _ => none
  | _ => none
noncomputable def fieldAddrV (x : Cx) (t : TypeId) (v : Value) (i : Nat) : Option Value :=
  match v with
  | .pointer (some a) => match a.spot with
    | some _ => none
    | none => match x.P.underlying t with
      | some (.struct fields) => match nth fields.toList i with
        | some f => match sizeT x f.type with
          | some (_ + 1) => some (.pointer (some ⟨a.block, Nat.add a.off f.offset, none⟩))
          | _ => none
        | none => none
      | _ => none
  | _ => none
noncomputable def elemAt (x : Cx) (elem : TypeId) (a : Addr) (i len : Nat) : Option Value :=
  match a.spot with
  | some _ => none
  | none => match Nat.blt i len with
    | true => match sizeT x elem with
      | some n => some (.pointer (some ⟨a.block, Nat.add a.off (Nat.mul i n), none⟩))
      | none => none
    | false => none
noncomputable def indexAddrV (x : Cx) (t : TypeId) (v i : Value) : Option Value :=
  match natOf i with
  | none => none
  | some i => match v with
    | .slice (some a) len _ => match x.P.underlying t with
      | some (.slice elem) => elemAt x elem a i len
      | _ => none
    | .pointer (some a) => match x.P.underlying t with
      | some (.array len elem) => elemAt x elem a i len
      | _ => none
    | _ => none
noncomputable def byteV (b : UInt8) : Value := .int .u8 (.ofNat b.toNat)
noncomputable def indexV (x : Cx) (t : TypeId) (v i : Value) : Option Value :=
  match natOf i with
  | none => none
  | some i => match v with
    | .string s => match x.P.underlying t with
      | some .string => match nth s.data.toList i with
        | some b => some (byteV b)
        | none => none
      | _ => none
    | .agg cs => match x.P.underlying t with
      | some (.array len elem) => match Nat.blt i len with
        | true => match sizeT x elem with
          | some n => partV x elem cs.toList (Nat.mul i n)
          | none => none
        | false => none
      | _ => none
    | _ => none
noncomputable def extractV (v : Value) (i : Nat) : Option Value :=
  match v with
  | .tuple vs => nth vs.toList i
  | _ => none
noncomputable def natOr (d : Nat) (v : Option Value) : Option Nat :=
  match v with
  | none => some d
  | some v => natOf v
noncomputable def slice3 (x : Cx) (t : TypeId) (v : Value) (l h m : Nat) : Option Value :=
  match v with
  | .slice (some a) len k => match a.spot with
    | some _ => none
    | none => match x.P.underlying t with
      | some (.slice elem) => match sizeT x elem with
        | some n => match Nat.beq n k with
          | true => match Nat.ble m len with
            | true => match Nat.ble h m with
              | true => match Nat.ble l h with
                | true => some (.slice (some ⟨a.block, Nat.add a.off (Nat.mul l k), none⟩) (Nat.sub h l) k)
                | false => none
              | false => none
            | false => none
          | false => none
        | none => none
      | _ => none
  | _ => none
noncomputable def sliceV3 (x : Cx) (t : TypeId) (v : Value) (lo hi : Option Value) (mx : Value) : Option Value :=
  match natOf mx with
  | none => none
  | some m => match hi with
    | none => none
    | some hv => match natOf hv with
      | none => none
      | some h => match natOr 0 lo with
        | none => none
        | some l => slice3 x t v l h m
/-- a slice of an array's cells -/
noncomputable def sliceArr (x : Cx) (t : TypeId) (v : Value) (lo hi : Option Value) (S : AS) : Option Value :=
  match v with
  | .pointer (some a) => match a.spot with
    | some _ => none
    | none => match x.P.underlying t with
      | some (.array n elem) => match sizeT x elem with
        | some k => match natOr 0 lo with
          | some l => match natOr n hi with
            | some h => match Nat.ble l h with
              | true => match Nat.ble h n with
                | true => match S.heap.get a.block with
                  | some (.cells c _ _) => match Nat.ble (Nat.add a.off (Nat.mul n k)) c.length with
                    | true => match Nat.ble n 65536 with
                      | true => some (.slice (some ⟨a.block, Nat.add a.off (Nat.mul l k), none⟩) (Nat.sub h l) k)
                      | false => none
                    | false => none
                  | _ => none
                | false => none
              | false => none
            | none => none
          | none => none
        | none => none
      | _ => none
  | _ => none
noncomputable def sliceArrW (x : Cx) (t : TypeId) (v : Value) (lo hi : Option Value) (S : AS) : Option (Value × AS) :=
  match sliceArr x t v lo hi S with
  | some v => some (v, S)
  | none => none
noncomputable def isPtrV (v : Value) : Bool :=
  match v with
  | .pointer (some _) => true
  | _ => false
noncomputable def sliceV (x : Cx) (t : TypeId) (v : Value) (lo hi mx : Option Value) : Option Value :=
  match mx with
  | some m => sliceV3 x t v lo hi m
  | none => match natOr 0 lo with
    | none => none
    | some l => match v with
      | .string s => match natOr s.data.toList.length hi with
        | none => none
        | some h => match x.P.underlying t with
          | some .string => match Nat.ble h s.data.toList.length with
            | true => match Nat.ble l h with
              | true => some (.string ⟨((s.data.toList.drop l).take (Nat.sub h l)).toArray⟩)
              | false => none
            | false => none
          | _ => none
      | .slice (some a) len k => match natOr len hi with
        | none => none
        | some h => match a.spot with
          | some _ => none
          | none => match x.P.underlying t with
            | some (.slice elem) => match sizeT x elem with
              | some n => match Nat.beq n k with
                | true => match Nat.ble h len with
                  | true => match Nat.ble l h with
                    | true => some (.slice (some ⟨a.block, Nat.add a.off (Nat.mul l k), none⟩) (Nat.sub h l) k)
                    | false => none
                  | false => none
                | false => none
              | none => none
            | _ => none
      | .slice none 0 0 => match natOr 0 hi with
        | some 0 => match l with
          | 0 => match x.P.underlying t with
            | some (.slice elem) => match sizeT x elem with
              | some _ => some (.slice none 0 0)
              | none => none
            | _ => none
          | _ => none
        | _ => none
      | _ => none
noncomputable def keyKind (x : Cx) (t : TypeId) : Option TypeDesc :=
  match x.P.underlying t with
  | some (.int k) => some (.int k)
  | some .string => some .string
  | some .bool => some .bool
  | _ => none
noncomputable def kn (k : IntKind) : Nat :=
  match k with
  | .i8 => 0 | .i16 => 1 | .i32 => 2 | .i64 => 3 | .u8 => 4 | .u16 => 5 | .u32 => 6 | .u64 => 7
noncomputable def bytesEq : List UInt8 → List UInt8 → Bool
  | [], [] => true
  | a :: l, b :: m => match Nat.beq a.toNat b.toNat with
    | true => bytesEq l m
    | false => false
  | _, _ => false
noncomputable def eqI (n m : Int) : Bool :=
  match n with
  | .ofNat a => match m with
    | .ofNat b => Nat.beq a b
    | .negSucc _ => false
  | .negSucc a => match m with
    | .ofNat _ => false
    | .negSucc b => Nat.beq a b
noncomputable def ltI (n m : Int) : Bool :=
  match n with
  | .ofNat a => match m with
    | .ofNat b => Nat.blt a b
    | .negSucc _ => false
  | .negSucc a => match m with
    | .ofNat _ => true
    | .negSucc b => Nat.blt b a
/-- are two keys of the kind the same? -/
noncomputable def sameKey (d : TypeDesc) (k k' : Value) : Option Bool :=
  match d with
  | .int _ => match k with
    | .int i n => match k' with
      | .int j m => match Nat.beq (kn i) (kn j) with
        | true => some (eqI n m)
        | false => none
      | _ => none
    | _ => none
  | .string => match k with
    | .string s => match k' with
      | .string r => some (bytesEq s.data.toList r.data.toList)
      | _ => none
    | _ => none
  | .bool => match k with
    | .bool b => match k' with
      | .bool c => some (b == c)
      | _ => none
    | _ => none
  | _ => none
noncomputable def findE (d : TypeDesc) (k : Value) : List MapEntry → Nat → Option (Option (Nat × Value))
  | [], _ => some none
  | e :: es, i =>
    match sameKey d k e.key with
    | some true => some (some (i, e.val))
    | some false => findE d k es (Nat.succ i)
    | none => none
noncomputable def okV (ok : Bool) (v : Value) (b : Bool) : Value :=
  match ok with
  | true => .tuple #[v, .bool b]
  | false => v
/-- a key that may be looked for -/
noncomputable def keyOk (d : TypeDesc) (k : Value) : Bool :=
  match sameKey d k k with
  | some _ => true
  | none => false
noncomputable def lookupV (x : Cx) (t : TypeId) (m k : Value) (ok : Bool) (S : AS) : Option Value :=
  match m with
  | .map (some r) =>
    match S.heap.get r with
    | some (.map es _) => match x.P.underlying t with
      | some (.map key elem) => match keyKind x key with
        | some kd => match keyOk kd k with
          | false => none
          | true => match zeroT x elem with
            | some z => match findE kd k es 0 with
              | some (some (_, v)) => some (okV ok v true)
              | some none => some (okV ok z false)
              | none => none
            | none => none
        | none => none
      | _ => none
    | _ => none
  | .map none => match x.P.underlying t with
    | some (.map key elem) => match keyKind x key with
      | some kd => match keyOk kd k with
        | false => none
        | true => match zeroT x elem with
          | some z => some (okV ok z false)
          | none => none
      | none => none
    | _ => none
  | _ => none
noncomputable def setVal : Nat → List MapEntry → Value → Value → List MapEntry
  | _, [], _, _ => []
  | 0, e :: l, k, v => { key := k, val := v, born := e.born } :: l
  | i + 1, e :: l, k, v => e :: setVal i l k v
noncomputable def mapUpdateV (x : Cx) (t : TypeId) (m k v : Value) (S : AS) : Option (Value × AS) :=
  match m with
  | .map (some r) =>
    match S.heap.get r with
    | some (.map es clock) => match x.P.underlying t with
      | some (.map key _) => match keyKind x key with
        | some kd => match keyOk kd k with
          | false => none
          | true => match findE kd k es 0 with
            | some (some (i, _)) => some (undef, { S with heap := S.heap.set r (some (.map (setVal i es k v) clock)) })
            | some none => some (undef, { S with heap := S.heap.set r (some (.map (es ++ [{ key := k, val := v, born := clock }]) (Nat.succ clock))) })
            | none => none
        | none => none
      | _ => none
    | _ => none
  | _ => none
noncomputable def makeMapV (x : Cx) (t : TypeId) (r : Option Value) (S : AS) : Option (Value × AS) :=
  match r with
  | none => some (.map (some S.next), addObj S (.map [] 0))
  | some v => match v with
    | .int _ _ => match x.P.underlying t with
      | some (.map _ _) => some (.map (some S.next), addObj S (.map [] 0))
      | _ => none
    | _ => none
noncomputable def bytesOf : List Value → Option (List UInt8)
  | [] => some []
  | v :: l => match v with
    | .int .u8 (.ofNat n) => match Nat.blt n 256 with
      | true => match bytesOf l with
        | some r => some (UInt8.ofNat n :: r)
        | none => none
      | false => none
    | _ => none
noncomputable def bytesV : List UInt8 → List Value
  | [] => []
  | b :: l => byteV b :: bytesV l
noncomputable def firstCellsV (x : Cx) (S : AS) (size n : Nat) (v : Value) : Option (List Value) :=
  match v with
  | .slice (some a) _ _ => match a.spot with
    | none => readCells x S a.block a.off (Nat.mul n size)
    | some _ => none
  | .slice none _ _ => match n with
    | 0 => some []
    | _ => none
  | .string s => some (bytesV (s.data.toList.take n))
  | _ => none
noncomputable def lenV (v : Value) : Option Nat :=
  match v with
  | .slice _ n _ => some n
  | .string s => some s.data.toList.length
  | _ => none
noncomputable def dropObj (S : AS) (i : Nat) : AS := { S with heap := S.heap.set i none }
/-- append of what has m elements, by its cells -/
noncomputable def appendTo (x : Cx) (elem : TypeId) (k m : Nat) (new : List Value) (s : Value) (S : AS) : Option (Value × AS) :=
  match m with
  | 0 => match s with
    | .slice none 0 0 => some (s, S)
    | .slice (some _) _ _ => some (s, S)
    | _ => none
  | _ + 1 => match s with
    | .slice none 0 0 => some (.slice (some (here S)) m k, addObj S (.cells new elem false))
    | .slice (some a) n k' => match a.spot with
      | some _ => none
      | none => match Nat.beq k' k with
        | false => none
        | true => match Nat.ble n 65536 with
          | false => none
          | true => match Nat.blt a.block x.G with
            | true => none
            | false => match readCells x S a.block a.off (Nat.mul n k) with
              | none => none
              | some old => match S.heap.get a.block with
                | some (.cells _ elem' _) => match Nat.beq elem' elem with
                  | true => some (.slice (some (here S)) (Nat.add n m) k, addObj (dropObj S a.block) (.cells (old ++ new) elem false))
                  | false => none
                | _ => none
    | _ => none
noncomputable def appendV (x : Cx) (sType xType : TypeId) (s y : Value) (S : AS) : Option (Value × AS) :=
  match x.P.underlying sType with
  | some (.slice elem) => match x.P.info? elem with
    | none => none
    | some info => match zeroT x elem with
      | none => none
      | some z => match Nat.beq (cellsL z).length info.size with
        | false => none
        | true => match info.size with
          | 0 => none
          | k + 1 => match info.bytes with
            | 0 => none
            | b + 1 => match Nat.ble b 65535 with
              | false => none
              | true => match x.P.underlying xType with
                | none => none
                | some (.int _) => match s with
                  | .slice none 0 0 => match natOf y with
                    | none => none
                    | some m => match Nat.ble m 65536 with
                      | false => none
                      | true => appendTo x elem (Nat.succ k) m (times m (cellsL z)) s S
                  | _ => none
                | some _ => match lenV y with
                  | none => none
                  | some m => match Nat.ble m 65536 with
                    | false => none
                    | true => match firstCellsV x S (Nat.succ k) m y with
                      | none => none
                      | some new => match Nat.beq new.length (Nat.mul m (Nat.succ k)) with
                        | false => none
                        | true => match flats new with
                          | false => none
                          | true => appendTo x elem (Nat.succ k) m new s S
  | _ => none
noncomputable def goNat (n : Nat) : Value := .int .i64 (.ofNat n)
noncomputable def copyV (x : Cx) (dType : TypeId) (d y : Value) (S : AS) : Option (Value × AS) :=
  match d with
  | .slice a dn _ => match x.P.underlying dType with
    | some (.slice elem) => match lenV y with
      | none => none
      | some yn => match sizeT x elem with
        | none => none
        | some k => match firstCellsV x S k (Nat.min yn dn) y with
          | none => none
          | some c => match a with
            | none => some (goNat (Nat.min yn dn), S)
            | some a => match c with
              | [] => some (goNat (Nat.min yn dn), S)
              | _ :: _ => match dn with
                | 0 => none
                | _ + 1 => match a.spot with
                  | some _ => none
                  | none => match putCells x S a.block a.off c with
                    | some S => some (goNat (Nat.min yn dn), S)
                    | none => none
    | _ => none
  | _ => none
noncomputable def clearV (x : Cx) (t : TypeId) (v : Value) (S : AS) : Option (Value × AS) :=
  match v with
  | .slice (some a) n _ => match n with
    | 0 => match x.P.underlying t with
      | some (.slice _) => some (undef, S)
      | _ => none
    | _ + 1 => match x.P.underlying t with
      | some (.slice elem) => match zeroT x elem with
        | some z => match a.spot with
          | some _ => none
          | none => match putCells x S a.block a.off (times n (cellsL z)) with
            | some S => some (undef, S)
            | none => none
        | none => none
      | _ => none
  | _ => none

noncomputable def isNonePtr (v : Value) : Option Bool :=
  match v with
  | .pointer a => some a.isNone
  | _ => none
noncomputable def addrEq (a b : Addr) : Option Bool :=
  match a.spot with
  | some _ => none
  | none => match b.spot with
    | some _ => none
    | none => match Nat.beq a.block b.block with
      | true => some (Nat.beq a.off b.off)
      | false => none
noncomputable def eqPtr (x : Cx) (e : TypeId) (a b : Option Addr) : Option Bool :=
  match a with
  | none => some b.isNone
  | some a => match b with
    | none => some false
    | some b => match sizeT x e with
      | some (_ + 1) => addrEq a b
      | _ => none
noncomputable def eqV (x : Cx) (t : TypeId) (a b : Value) (cst : Bool) : Option Bool :=
  match x.P.underlying t with
  | some .bool => match a with
    | .bool a => match b with
      | .bool b => some (a == b)
      | _ => none
    | _ => none
  | some (.pointer e) => match a with
    | .pointer a => match b with
      | .pointer b => eqPtr x e a b
      | _ => none
    | _ => none
  | some (.slice _) => match a with
    | .slice a _ _ => match b with
      | .slice b _ _ => match a with
        | none => some b.isNone
        | some _ => match b with
          | none => some false
          | some _ => none
      | _ => none
    | _ => none
  | some (.map _ _) => match a with
    | .map a => match b with
      | .map b => match a with
        | none => some b.isNone
        | some _ => match b with
          | none => some false
          | some _ => none
      | _ => none
    | _ => none
  | some (.func _ _ _) => match a with
    | .nilFunc => match b with
      | .nilFunc => some true
      | .func (.func _) _ _ => some false
      | _ => none
    | .func (.func _) _ _ => match b with
      | .nilFunc => some false
      | _ => none
    | _ => none
  | some (.interface _) => match a with
    | .nilIface => match b with
      | .nilIface => match cst with
        | true => some true
        | false => none
      | .iface _ _ => some false
      | _ => none
    | .iface _ _ => match b with
      | .nilIface => some false
      | _ => none
    | _ => none
  | _ => none
/-- the model's own text, where it needs no memory -/
noncomputable def runG (x : Cx) (s : Sem Value) : Option Value :=
  match pureRun x.P s with
  | some v => match ground6 v with
    | true => some v
    | false => none
  | none => none
noncomputable def lim (k : IntKind) : Nat :=
  match k with
  | .i8 => 128 | .u8 => 128 | .i16 => 32768 | .u16 => 32768 | .i32 => 2147483648 | .u32 => 2147483648 | .i64 => 9223372036854775808 | .u64 => 9223372036854775808
noncomputable def wrapF (k : IntKind) (n : Int) : Int :=
  match n with
  | .ofNat m => match Nat.blt m (lim k) with
    | true => .ofNat m
    | false => k.wrap (.ofNat m)
  | .negSucc m => k.wrap (.negSucc m)
noncomputable def catB (s r : ByteArray) : Option Value :=
  match Nat.ble (Nat.add s.data.toList.length r.data.toList.length) 1000000 with
  | true => some (.string ⟨(s.data.toList ++ r.data.toList).toArray⟩)
  | false => none
noncomputable def boolO (b : Bool) : Option Value := some (.bool b)
noncomputable def intV (x : Cx) (op : BinOp) (t : TypeId) (k : IntKind) (n m : Int) : Option Value :=
  match op with
  | .add => some (.int k (wrapF k (Int.add n m)))
  | .sub => some (.int k (wrapF k (Int.sub n m)))
  | .mul => some (.int k (wrapF k (Int.mul n m)))
  | .lss => boolO (ltI n m)
  | .gtr => boolO (ltI m n)
  | .leq => boolO (!ltI m n)
  | .geq => boolO (!ltI n m)
  | .eql => boolO (eqI n m)
  | .neq => boolO (!eqI n m)
  | _ => runG x (binOp op t (.int k n) (.int k m))
noncomputable def binInt (x : Cx) (op : BinOp) (t : TypeId) (k : IntKind) (n : Int) (b : Value) : Option Value :=
  match b with
  | .int k' m => match op with
    | .shl => runG x (binOp .shl t (.int k n) (.int k' m))
    | .shr => runG x (binOp .shr t (.int k n) (.int k' m))
    | op => match Nat.beq (kn k) (kn k') with
      | true => intV x op t k n m
      | false => none
  | _ => none
noncomputable def binStr (x : Cx) (op : BinOp) (s : ByteArray) (b : Value) : Option Value :=
  match b with
  | .string r => match op with
    | .eql => boolO (bytesEq s.data.toList r.data.toList)
    | .neq => boolO (!bytesEq s.data.toList r.data.toList)
    | .add => catB s r
    | op => runG x (Op.stringOp op s r)
  | _ => none
noncomputable def isC (o : Operand) : Bool :=
  match o with
  | .const _ => true
  | _ => false
noncomputable def binRest (x : Cx) (op : BinOp) (t : TypeId) (xo yo : Operand) (a b : Value) : Option Value :=
  match op with
  | .eql => match eqV x t a b (isC xo || isC yo) with
    | some r => boolO r
    | none => match ground6 a && ground6 b with
      | true => runG x (do eqGuard .eql t xo yo a b; binOp .eql t a b)
      | false => none
  | .neq => match eqV x t a b (isC xo || isC yo) with
    | some r => boolO (!r)
    | none => match ground6 a && ground6 b with
      | true => runG x (do eqGuard .neq t xo yo a b; binOp .neq t a b)
      | false => none
  | _ => none
noncomputable def binV (x : Cx) (op : BinOp) (t : TypeId) (xo yo : Operand) (a b : Value) : Option Value :=
  match a with
  | .int k n => binInt x op t k n b
  | .string s => binStr x op s b
  | a => binRest x op t xo yo a b
noncomputable def unV (x : Cx) (op : UnOp) (a : Value) : Option Value :=
  match op with
  | .not => match a with
    | .bool b => boolO (!b)
    | _ => none
  | op => match ground6 a with
    | true => runG x (Op.unary op a)
    | false => none
noncomputable def pickV (c a b : Value) : Option Value :=
  match c with
  | .bool t => match t with
    | true => some a
    | false => some b
  | _ => none
noncomputable def nilCheckV (v : Value) : Option Value :=
  match v with
  | .pointer (some _) => some v
  | _ => none
noncomputable def ifaceV (x : Cx) (t : TypeId) (v : Value) : Option Value :=
  match x.P.underlying t with
  | some (.interface _) => none
  | some _ => some (.iface t v)
  | none => none
noncomputable def funcV (fn : Fn) (a b : List Value) : Option Value :=
  match fn with
  | .func g => some (.func (.func g) a.toArray b.toArray)
  | _ => none
noncomputable def assertV (x : Cx) (v : Value) (t u : TypeId) (ok : Bool) : Option Value :=
  match ground6 v with
  | true => runG x (Instr.typeAssert v t u ok)
  | false => match v with
    | .iface s y => match x.P.underlying u with
      | some (.interface _) => none
      | some _ => match Nat.beq s u with
        | true => some (okV ok y true)
        | false => none
      | none => none
    | _ => none

/-- What an operation does: nothing that blocks could tell (a value); it looks at blocks; it makes or turns blocks; it calls; it defers. -/
inductive Res where
  | pure (v : Option Value)
  | read (g : AS → Option Value)
  | write (g : AS → Option (Value × AS))
  | call (g : Value) (args : List Value)
  | defer (g : Value)
  | no
noncomputable def bytesAt (x : Cx) (a : Addr) (n : Nat) (S : AS) : Option (List UInt8) :=
  match a.spot with
  | some _ => none
  | none => match readCells x S a.block a.off n with
    | some c => bytesOf c
    | none => none
noncomputable def strOf (x : Cx) (a : Addr) (n : Nat) (S : AS) : Option Value :=
  match bytesAt x a n S with
  | some b => some (.string ⟨b.toArray⟩)
  | none => none
noncomputable def toUnsafe (x : Cx) (t : TypeId) (a : Addr) (S : AS) : Option Value :=
  match a.spot with
  | some _ => none
  | none => match S.heap.get a.block with
    | some (.cells c _ true) => match sizeT x t with
      | some (_ + 1) => match Nat.blt a.off c.length with
        | true => some (.pointer (some a))
        | false => none
      | _ => none
    | _ => none
noncomputable def fromUnsafe (x : Cx) (u : TypeId) (a : Addr) (S : AS) : Option Value :=
  match a.spot with
  | some _ => none
  | none => match S.heap.get a.block with
    | some (.cells c e true) => match liesAt x.P x.P.depth e (c.length / x.P.cellsOf e) a.off u 1 with
      | true => some (.pointer (some a))
      | false => none
    | _ => none
noncomputable def bytesMade (elem : TypeId) (s : ByteArray) (S : AS) : Option (Value × AS) :=
  some (.slice (some (here S)) s.data.toList.length 1, addObj S (.cells (bytesV s.data.toList) elem false))
noncomputable def convR (x : Cx) (src dst : TypeId) (v : Value) : Res :=
  match v with
  | .int _ n => match x.P.underlying dst with
    | some (.int k) => match x.P.underlying src with
      | some _ => .pure (some (.int k (wrapF k n)))
      | none => .no
    | _ => .no
  | .string s => match x.P.underlying dst with
    | some (.slice e) => match x.P.underlying e with
      | some (.int .u8) => match x.P.underlying src with
        | some .string => match Nat.ble s.data.toList.length 65536 with
          | true => .write (bytesMade e s)
          | false => .no
        | _ => .no
      | _ => .no
    | some .string => match x.P.underlying src with
      | some .string => .pure (some v)
      | _ => .no
    | _ => .no
  | .slice (some a) n _ => match x.P.underlying src with
    | some (.slice e) => match x.P.underlying dst with
      | some .string => match x.P.underlying e with
        | some (.int .u8) => .read (strOf x a n)
        | _ => .no
      | _ => .no
    | _ => .no
  | .pointer (some a) => match x.P.underlying src with
    | some (.pointer t) => match x.P.underlying dst with
      | some .unsafePointer => .read (toUnsafe x t a)
      | _ => .no
    | some .unsafePointer => match x.P.underlying dst with
      | some (.pointer u) => match sizeT x u with
        | some _ => .read (fromUnsafe x u a)
        | none => .no
      | _ => .no
    | _ => .no
  | _ => .no
noncomputable def mapLen (r : Nat) (S : AS) : Option Value :=
  match S.heap.get r with
  | some (.map es _) => some (goNat es.length)
  | _ => none
noncomputable def lenR (x : Cx) (t : TypeId) (v : Value) : Res :=
  match v with
  | .string s => match x.P.underlying t with
    | some .string => .pure (some (goNat s.data.toList.length))
    | _ => .no
  | .slice _ n _ => match x.P.underlying t with
    | some (.slice _) => .pure (some (goNat n))
    | _ => .no
  | .map none => match x.P.underlying t with
    | some (.map _ _) => .pure (some (goNat 0))
    | _ => .no
  | .map (some r) => match x.P.underlying t with
    | some (.map _ _) => .read (mapLen r)
    | _ => .no
  | _ => .no
noncomputable def unsafeStrV (x : Cx) (t : TypeId) (v l : Value) (S : AS) : Option (Value × AS) :=
  match v with
  | .pointer (some a) => match natOf l with
    | some (n + 1) => match Nat.ble n 65536 with
      | true => match S.heap.get a.block with
        | some (.cells _ el _) => match x.P.underlying t with
          | some (.pointer e) => match Nat.beq el e with
            | true => match sizeT x e with
              | some 1 => match bytesAt x a (Nat.succ n) S with
                | some b => some (.string ⟨b.toArray⟩, dropObj S a.block)
                | none => none
              | _ => none
            | false => none
          | _ => none
        | _ => none
      | false => none
    | _ => none
  | _ => none
noncomputable def builtinR (x : Cx) (b : Builtin) (ts : List TypeId) (args : List Value) : Res :=
  match b with
  | .len => match ts with
    | t :: _ => match args with
      | v :: _ => lenR x t v
      | _ => .no
    | _ => .no
  | .cap => match ts with
    | t :: _ => match args with
      | v :: _ => match v with
        | .slice none _ c => match x.P.underlying t with
          | some (.slice _) => .pure (some (goNat c))
          | _ => .no
        | .slice (some _) _ _ => match x.P.underlying t with
          | some (.slice _) => .pure (some unk)
          | _ => .no
        | _ => .no
      | _ => .no
    | _ => .no
  | .max => match args with
    | [.int k n, .int _ m] => .pure (some (.int k (match ltI n m with | true => m | false => n)))
    | _ => .no
  | .min => match args with
    | [.int k n, .int _ m] => .pure (some (.int k (match ltI m n with | true => m | false => n)))
    | _ => .no
  | .append => match ts with
    | [a, b] => match args with
      | [s, y] => .write (appendV x a b s y)
      | _ => .no
    | _ => .no
  | .copy => match ts with
    | a :: _ => match args with
      | [d, y] => .write (copyV x a d y)
      | _ => .no
    | _ => .no
  | .clear => match ts with
    | [a] => match args with
      | [d] => .write (clearV x a d)
      | _ => .no
    | _ => .no
  | .unsafeSliceData => match args with
    | [.slice (some a) (_ + 1) _] => .pure (some (.pointer (some a)))
    | _ => .no
  | .unsafeString => match args with
    | [p, l] => match ts with
      | t :: _ => .write (unsafeStrV x t p l)
      | _ => .no
    | _ => .no
  | _ => .no
noncomputable def callR (x : Cx) (f : Fr) (c : Call) : Res :=
  match c.callee with
  | .value g => .call (ev x f g) (evs x f c.args.toList)
  | .builtin b => builtinR x b c.argTypes.toList (evs x f c.args.toList)
  | .invoke _ _ => .no
noncomputable def deferR (x : Cx) (f : Fr) (c : Call) : Res :=
  match c.callee with
  | .value g => match c.args.toList with
    | [] => .defer (ev x f g)
    | _ => .no
  | _ => .no
noncomputable def evO (x : Cx) (f : Fr) (o : Option Operand) : Option Value :=
  match o with
  | some o => some (ev x f o)
  | none => none
noncomputable def sliceR (x : Cx) (t : TypeId) (v : Value) (lo hi mx : Option Value) : Res :=
  match isPtrV v with
  | true => match mx with
    | none => .write (sliceArrW x t v lo hi)
    | some _ => .no
  | false => .pure (sliceV x t v lo hi mx)
noncomputable def sem (x : Cx) (f : Fr) (op : Op) : Res :=
  match op with
  | .move y => .pure (some (ev x f y))
  | .assign y => .pure (some (ev x f y))
  | .pick c a b => .pure (pickV (ev x f c) (ev x f a) (ev x f b))
  | .alloc t => .write (allocV x t)
  | .box t y => .write (boxV t (ev x f y))
  | .build t parts => .pure (buildV x t (evParts x f parts.toList))
  | .buildSlice t len parts => .write (buildSliceV x t len (evParts x f parts.toList))
  | .insert t m k y => .write (mapUpdateV x t (ev x f m) (ev x f k) (ev x f y))
  | .mapUpdate t m k y => .write (mapUpdateV x t (ev x f m) (ev x f k) (ev x f y))
  | .load t a => .read (fun S => loadV x S t (ev x f a))
  | .store t a y => .write (fun S => storeV x S t (ev x f a) (ev x f y))
  | .nilCheck y => .pure (nilCheckV (ev x f y))
  | .binOp op t a b _ => .pure (binV x op t a b (ev x f a) (ev x f b))
  | .unOp op _ y => .pure (unV x op (ev x f y))
  | .convert src dst y => convR x src dst (ev x f y)
  | .makeInterface t y => .pure (ifaceV x t (ev x f y))
  | .makeFunc fn first captured => .pure (funcV fn (evs x f first.toList) (evs x f captured.toList))
  | .makeMap t r => .write (makeMapV x t (evO x f r))
  | .makeSlice t l c => .write (makeSliceV x t (ev x f l) (ev x f c))
  | .slice t y lo hi mx => sliceR x t (ev x f y) (evO x f lo) (evO x f hi) (evO x f mx)
  | .fieldAddr t y i => .pure (fieldAddrV x t (ev x f y) i)
  | .field t y i => .pure (fieldV x t (ev x f y) i)
  | .indexAddr t y i => .pure (indexAddrV x t (ev x f y) (ev x f i))
  | .index t y i => .pure (indexV x t (ev x f y) (ev x f i))
  | .lookup t m k ok => .read (lookupV x t (ev x f m) (ev x f k) ok)
  | .typeAssert y t u ok => .pure (assertV x (ev x f y) t u ok)
  | .extract y i => .pure (extractV (ev x f y) i)
  | .call c => callR x f c
  | .defer c => deferR x f c
  | _ => .no

inductive XE where | normal | exit (id : Nat) | ret
abbrev CallF := Fn → List Value → AS → Option (Value × AS)
/-- a deferred call of the activation's: a function's that does nothing, or a loop's mark, or a function's -/
abbrev CallLF := Nat → List Value → AS → Option (List (Value × AS))
inductive DE where | quiet | mark (id : Nat) | fn (g : Nat) (l : List Value)
structure St where
  f : Fr
  ds : List DE
  S : AS
noncomputable def putV (N : Nat) (f : Fr) (dst : Option Nat) (v : Value) : Option Fr :=
  match dst with
  | none => some f
  | some d => match Nat.blt d N with
    | true => some (f.set d (some v))
    | false => none
noncomputable def St.put (N : Nat) (s : St) (dst : Option Nat) (v : Value) (S : AS) : Option St :=
  match putV N s.f dst v with
  | some f => some ⟨f, s.ds, S⟩
  | none => none
noncomputable def St.putO (N : Nat) (s : St) (dst : Option Nat) (v : Option Value) : Option St :=
  match v with
  | some v => s.put N dst v s.S
  | none => none
noncomputable def St.putW (N : Nat) (s : St) (dst : Option Nat) (v : Option (Value × AS)) : Option St :=
  match v with
  | some (v, S) => s.put N dst v S
  | none => none
/-- functions without a body -/
noncomputable def externV (x : Cx) (fn : Func) (args : List Value) (S : AS) : Option (Value × AS) :=
  if fn.name = "internal/abi.NoEscape" then match args with
    | [v] => some (v, S)
    | _ => none
  else if fn.name = "internal/bytealg.MakeNoZero" then match args with
    | [.int .i64 (.ofNat n)] => match fn.resultTypes.toList with
      | t :: _ => match x.P.underlying t with
        | some (.slice elem) => match Nat.ble n 65536 with
          | true => some (.slice (some (here S)) n 1, addObj S (.cells [] elem false))
          | false => none
        | _ => none
      | _ => none
    | _ => none
  else if fn.name = "maps.clone" then match args with
    | [.iface t v] => match v with
      | .map (some r) => match S.heap.get r with
        | some (.map es ck) => some (.iface t (.map (some S.next)), addObj S (.map es ck))
        | _ => none
      | _ => none
    | _ => none
  else if fn.name = "math/bits.Add64" then match args with
    | [p, q, r] => match natOf p with
      | some a => match natOf q with
        | some b => match natOf r with
          | some c => match Nat.ble c 1 with
            | true => some (.tuple #[.int .u64 (.ofNat (Nat.mod (Nat.add (Nat.add a b) c) 18446744073709551616)), .int .u64 (.ofNat (Nat.div (Nat.add (Nat.add a b) c) 18446744073709551616))], S)
            | false => none
          | none => none
        | none => none
      | none => none
    | _ => none
  else none
noncomputable def callV (x : Cx) (call : CallF) (g : Value) (args : List Value) (S : AS) : Option (Value × AS) :=
  match g with
  | .func fn first captured => match fn with
    | .func g => match x.P.funcs[g]? with
      | some fn => match fn.body with
        | some _ => call (.func g) (first.toList ++ (args ++ captured.toList)) S
        | none => externV x fn (first.toList ++ (args ++ captured.toList)) S
      | none => none
    | .yield l => match first.toList with
      | [] => match captured.toList with
        | [] => call (.yield l) args S
        | _ => none
      | _ => none
    | _ => none
  | _ => none
noncomputable def quietV (x : Cx) (g : Value) : Bool :=
  match g with
  | .func (.func g) a b => match Nat.ble (Nat.add a.toList.length b.toList.length) 4 with
    | true => x.quiet g
    | false => false
  | _ => false
noncomputable def deferD (g : Value) : Option DE :=
  match g with
  | .func (.func g) a b => some (.fn g (a.toList ++ b.toList))
  | _ => none
/-- one operation; what it calls by 'call' -/
noncomputable def doOp (x : Cx) (call : CallF) (rnd : Bool) (N : Nat) (s : St) (o : Oper) : Option St :=
  match sem x s.f o.op with
  | .pure v => s.putO N o.dst v
  | .read g => s.putO N o.dst (g s.S)
  | .write g => s.putW N o.dst (g s.S)
  | .call g args => s.putW N o.dst (callV x call g args s.S)
  | .defer g => match rnd with
    | true => none
    | false => match quietV x g with
      | true => St.put N ⟨s.f, .quiet :: s.ds, s.S⟩ o.dst undef s.S
      | false => match deferD g with
        | some d => St.put N ⟨s.f, d :: s.ds, s.S⟩ o.dst undef s.S
        | none => none
  | .no => none
noncomputable def wantedV (x : Cx) (ops : List Oper) (f : Fr) (o : Oper) : Option Bool :=
  match o.guard with
  | none => some true
  | some (j, want) => match nth ops j with
    | some oj => match oj.dst with
      | some d => match ev x f (.tmp d) with
        | .bool b => some (b == want)
        | v => match isUnk v with
          | true => none
          | false => some false
      | none => some false
    | none => some false
noncomputable def stepOp (x : Cx) (call : CallF) (rnd : Bool) (N : Nat) (ops : List Oper) (s : St) (o : Oper) : Option St :=
  match wantedV x ops s.f o with
  | some b => match b with
    | true => doOp x call rnd N s o
    | false => s.put N o.dst undef s.S
  | none => none
noncomputable def runOps (x : Cx) (call : CallF) (rnd : Bool) (N : Nat) (ops : List Oper) (l : List Oper) : St → Option St :=
  List.rec (motive := fun _ => St → Option St) (fun s => some s)
    (fun o _ ih s => Option.rec (motive := fun _ => Option St) none (fun s => ih s) (stepOp x call rnd N ops s o)) l
/-! a region whose order is drawn -/
def addrSame (a b : Addr) : Bool :=
  match a.spot with
  | some _ => false
  | none => match b.spot with
    | some _ => false
    | none => match Nat.beq a.block b.block with
      | true => Nat.beq a.off b.off
      | false => false
noncomputable def allEq (p : Value → Value → Bool) (l : List Value) : List Value → Bool :=
  List.rec (motive := fun _ => List Value → Bool) (fun m => match m with | [] => true | _ :: _ => false)
    (fun a _ ih m => match m with | [] => false | b :: m => match p a b with | true => ih m | false => false) l
noncomputable def veqStep (rec : Value → Value → Bool) (v u : Value) : Bool :=
  match v with
  | .int k n => match u with
    | .int j m => match Nat.beq (kn k) (kn j) with
      | true => eqI n m
      | false => false
    | _ => false
  | .bool b => match u with
    | .bool c => b == c
    | _ => false
  | .string s => match u with
    | .string r => bytesEq s.data.toList r.data.toList
    | _ => false
  | .pointer none => match u with
    | .pointer none => true
    | _ => false
  | .pointer (some a) => match u with
    | .pointer (some b) => addrSame a b
    | _ => false
  | .slice none n k => match u with
    | .slice none m j => match Nat.beq n m with
      | true => Nat.beq k j
      | false => false
    | _ => false
  | .slice (some a) n k => match u with
    | .slice (some b) m j => match Nat.beq n m with
      | true => match Nat.beq k j with
        | true => addrSame a b
        | false => false
      | false => false
    | _ => false
  | .map none => match u with
    | .map none => true
    | _ => false
  | .map (some a) => match u with
    | .map (some b) => Nat.beq a b
    | _ => false
  | .nilFunc => match u with
    | .nilFunc => true
    | _ => false
  | .nilIface => match u with
    | .nilIface => true
    | _ => false
  | .func (.func f) a c => match u with
    | .func (.func g) b d => match Nat.beq f g with
      | true => match allEq rec a.toList b.toList with
        | true => allEq rec c.toList d.toList
        | false => false
      | false => false
    | _ => false
  | .func (.yield f) a c => match u with
    | .func (.yield g) b d => match Nat.beq f g with
      | true => match allEq rec a.toList b.toList with
        | true => allEq rec c.toList d.toList
        | false => false
      | false => false
    | _ => false
  | .iface t v => match u with
    | .iface s u => match Nat.beq t s with
      | true => rec v u
      | false => false
    | _ => false
  | .agg a => match u with
    | .agg b => allEq rec a.toList b.toList
    | _ => false
  | .tuple a => match u with
    | .tuple b => allEq rec a.toList b.toList
    | _ => false
  | _ => false
noncomputable def veq (n : Nat) : Value → Value → Bool :=
  Nat.rec (motive := fun _ => Value → Value → Bool) (fun _ _ => false) (fun _ ih => veqStep ih) n
/-- the value and the block that an operation makes, its number being i -/
noncomputable def rawOp (x : Cx) (f : Fr) (op : Op) (i : Nat) : Option (Value × AObj) :=
  match op with
  | .alloc t => match zeroT x t with
    | some z => some (.pointer (some ⟨i, 0, none⟩), .cells (cellsL z) t true)
    | none => none
  | .box t y => match isUnk (ev x f y) with
    | true => none
    | false => some (.pointer (some ⟨i, 0, none⟩), .cells (cellsL (ev x f y)) t true)
  | .buildSlice t len parts => match x.P.underlying t with
    | some (.slice elem) => match sizeT x elem with
      | some n => match zeroT x elem with
        | some z => match Nat.beq (cellsL z).length n && (Nat.ble (Nat.mul len n) 16777216 && Nat.ble len 16777216) with
          | true => match fillL (fun i => some (Nat.mul i n, n)) (times len (cellsL z)) (evParts x f parts.toList) with
            | some c => some (.slice (some ⟨i, 0, none⟩) len n, .cells c elem true)
            | none => none
          | false => none
        | none => none
      | none => none
    | _ => none
  | .makeMap _ none => some (.map (some i), .map [] 0)
  | _ => none
/-- the temporaries at which an operation looks -/
def tmpO (o : Operand) (l : List Nat) : List Nat :=
  match o with
  | .tmp t => t :: l
  | _ => l
def tmpOO (o : Option Operand) (l : List Nat) : List Nat :=
  match o with
  | some o => tmpO o l
  | none => l
noncomputable def tmpsO (l : List Operand) (m : List Nat) : List Nat := List.rec (motive := fun _ => List Nat) m (fun o _ ih => tmpO o ih) l
noncomputable def tmpsP (l : List (Nat × Operand)) : List Nat := List.rec (motive := fun _ => List Nat) [] (fun p _ ih => tmpO p.2 ih) l
noncomputable def seen (op : Op) : List Nat :=
  match op with
  | .move y => tmpO y []
  | .assign y => tmpO y []
  | .pick c a b => tmpO c (tmpO a (tmpO b []))
  | .alloc _ => []
  | .box _ y => tmpO y []
  | .build _ parts => tmpsP parts.toList
  | .buildSlice _ _ parts => tmpsP parts.toList
  | .insert _ m k y => tmpO m (tmpO k (tmpO y []))
  | .mapUpdate _ m k y => tmpO m (tmpO k (tmpO y []))
  | .load _ a => tmpO a []
  | .store _ a y => tmpO a (tmpO y [])
  | .nilCheck y => tmpO y []
  | .binOp _ _ a b _ => tmpO a (tmpO b [])
  | .unOp _ _ y => tmpO y []
  | .convert _ _ y => tmpO y []
  | .makeInterface _ y => tmpO y []
  | .makeFunc _ first captured => tmpsO first.toList (tmpsO captured.toList [])
  | .makeMap _ r => tmpOO r []
  | .makeSlice _ l c => tmpO l (tmpO c [])
  | .slice _ y lo hi mx => tmpO y (tmpOO lo (tmpOO hi (tmpOO mx [])))
  | .fieldAddr _ y _ => tmpO y []
  | .field _ y _ => tmpO y []
  | .indexAddr _ y i => tmpO y (tmpO i [])
  | .index _ y i => tmpO y (tmpO i [])
  | .lookup _ m k _ => tmpO m (tmpO k [])
  | .typeAssert y _ _ _ => tmpO y []
  | .extract y _ => tmpO y []
  | .call c => match c.callee with
    | .value g => tmpO g (tmpsO c.args.toList [])
    | _ => tmpsO c.args.toList []
  | .defer c => match c.callee with
    | .value g => tmpO g []
    | _ => []
  | _ => []
noncomputable def natAt (l : List Nat) (i : Nat) : Nat :=
  match nth l i with
  | some n => n
  | none => 0
/-- the operations on which one hangs, through others too, as bits -/
noncomputable def maskE (ms : List Nat) (l : List Edge) : Nat :=
  List.rec (motive := fun _ => Nat) 0 (fun ed _ ih => match Region.binds .any ed with
    | true => Nat.lor (Nat.lor (Nat.pow 2 ed.on) (natAt ms ed.on)) ih
    | false => ih) l
noncomputable def masksFrom (l : List Oper) : List Nat → List Nat :=
  List.rec (motive := fun _ => List Nat → List Nat) (fun ms => ms) (fun o _ ih ms => ih (ms ++ [maskE ms o.after.toList])) l
/-- all edges (those that bind in mode m) point back -/
noncomputable def backE (m : Region.Mode) (i : Nat) (l : List Edge) : Bool :=
  List.rec (motive := fun _ => Bool) true (fun ed _ ih => match Region.binds m ed with
    | true => match Nat.blt ed.on i with
      | true => ih
      | false => false
    | false => ih) l
noncomputable def backAll (m : Region.Mode) (l : List Oper) : Nat → Bool :=
  List.rec (motive := fun _ => Nat → Bool) (fun _ => true) (fun o _ ih i => match backE m i o.after.toList with
    | true => ih (Nat.succ i)
    | false => false) l
/-- a place in an order: just behind the one ahead on which the operation hangs, if there is one -/
noncomputable def rankE (i : Nat) (l : List Edge) : Nat :=
  List.rec (motive := fun _ => Nat) (Nat.mul 2 i) (fun ed _ ih => match Nat.ble ed.on i with
    | true => ih
    | false => Nat.succ (Nat.mul 2 ed.on)) l
noncomputable def ranksFrom (n : Nat) (l : List Oper) : Nat → List Nat :=
  List.rec (motive := fun _ => Nat → List Nat) (fun _ => []) (fun o _ ih i => Nat.add (Nat.mul n (rankE i o.after.toList)) i :: ih (Nat.succ i)) l
noncomputable def lowE (rk : List Nat) (n r : Nat) (l : List Edge) : Bool :=
  List.rec (motive := fun _ => Bool) true (fun ed _ ih => match Region.binds .gc ed with
    | true => match Nat.blt (natAt rk ed.on) r with
      | true => match Nat.blt ed.on n with
        | true => ih
        | false => false
      | false => false
    | false => ih) l
noncomputable def lowAll (rk : List Nat) (n : Nat) (l : List Oper) : Nat → Bool :=
  List.rec (motive := fun _ => Nat → Bool) (fun _ => true) (fun o _ ih i => match lowE rk n (natAt rk i) o.after.toList with
    | true => ih (Nat.succ i)
    | false => false) l
noncomputable def progOk (ops : List Oper) : Bool :=
  match backAll .gc ops 0 with
  | true => true
  | false => lowAll (ranksFrom ops.length ops 0) ops.length ops 0
noncomputable def masksOk (ms : List Nat) (l : List Oper) : Nat → Bool :=
  List.rec (motive := fun _ => Nat → Bool) (fun _ => true) (fun o _ ih i => match Nat.beq (natAt ms i) (maskE ms o.after.toList) with
    | true => match backE .text i o.after.toList with
      | true => ih (Nat.succ i)
      | false => false
    | false => false) l
/-- who writes t comes before number i, or after it (m: i's mask) -/
noncomputable def wroteBy (ms : List Nat) (i m t : Nat) (l : List Oper) : Nat → Bool :=
  List.rec (motive := fun _ => Nat → Bool) (fun _ => true) (fun o _ ih j => match o.dst with
    | none => ih (Nat.succ j)
    | some d => match Nat.beq d t with
      | true => match Nat.testBit m j with
        | true => ih (Nat.succ j)
        | false => match Nat.beq i j with
          | true => ih (Nat.succ j)
          | false => match Nat.testBit (natAt ms j) i with
            | true => ih (Nat.succ j)
            | false => false
      | false => ih (Nat.succ j)) l
noncomputable def wroteAll (ms : List Nat) (i : Nat) (ops : List Oper) (ts : List Nat) : Bool :=
  List.rec (motive := fun _ => Bool) true (fun t _ ih => match wroteBy ms i (natAt ms i) t ops 0 with
    | true => ih
    | false => false) ts
noncomputable def guardT (ops : List Oper) (o : Oper) : List Nat :=
  match o.guard with
  | none => []
  | some (j, _) => match nth ops j with
    | some oj => match oj.dst with
      | some d => [d]
      | none => []
    | none => []
/-- no operation of the row writes d -/
noncomputable def unwritten (d : Nat) (l : List Oper) : Bool :=
  List.rec (motive := fun _ => Bool) true (fun o _ ih => match o.dst with
    | none => ih
    | some t => match Nat.beq t d with
      | true => false
      | false => ih) l
noncomputable def seenOk (ms : List Nat) (ops : List Oper) (l : List Oper) : Nat → Bool :=
  List.rec (motive := fun _ => Nat → Bool) (fun _ => true) (fun o rest ih i =>
    match wroteAll ms i ops (seen o.op) with
    | true => match wroteAll ms i ops (guardT ops o) with
      | true => match o.dst with
        | none => ih (Nat.succ i)
        | some d => match unwritten d rest with
          | true => ih (Nat.succ i)
          | false => false
      | false => false
    | false => false) l
noncomputable def drawOk (ms : List Nat) (ops : List Oper) : Bool :=
  match masksOk ms ops 0 with
  | true => match progOk ops with
    | true => seenOk ms ops ops 0
    | false => false
  | false => false
inductive Kd where
  | still
  | read
  | raw (o : AObj)
  | chain
structure DR where
  i : Nat
  o : Oper
  f : Fr
  v : Value
  k : Kd
  m : Nat
  pd : List (Nat × AObj)
  pre : AS
  post : AS
noncomputable def rawishOp (op : Op) : Bool :=
  match op with
  | .alloc _ => true
  | .box _ _ => true
  | .buildSlice _ _ _ => true
  | .makeMap _ _ => true
  | _ => false
/-- how many operations before number i may make a block out of turn -/
noncomputable def rankR (l : List Oper) : Nat → Nat :=
  List.rec (motive := fun _ => Nat → Nat) (fun _ => 0) (fun o _ ih i => match i with
    | 0 => 0
    | j + 1 => match rawishOp o.op with
      | true => Nat.succ (ih j)
      | false => ih j) l
/-- blocks that were made are taken in -/
noncomputable def takeIn (rk : Nat → Nat) (l : List (Nat × AObj)) : AS → AS :=
  List.rec (motive := fun _ => AS → AS) (fun S => S) (fun p _ ih S => ih { S with heap := S.heap.set (rk p.1) (some p.2) }) l
noncomputable def hangs (b : Bool) (m : Nat) (l : List (Nat × AObj)) : List (Nat × AObj) :=
  List.rec (motive := fun _ => List (Nat × AObj)) [] (fun p _ ih => match Nat.testBit m p.1 == b with
    | true => p :: ih
    | false => ih) l
noncomputable def pdNext (k : Kd) (m i : Nat) (pd : List (Nat × AObj)) : List (Nat × AObj) :=
  match k with
  | .raw o => (i, o) :: pd
  | .chain => hangs false m pd
  | _ => pd
noncomputable def chained (r : Option (Value × AS)) : Option (Value × Kd × AS) :=
  match r with
  | some (v, S) => some (v, .chain, S)
  | none => none
noncomputable def drawSem (x : Cx) (call : CallF) (rk : Nat → Nat) (m : Nat) (pd : List (Nat × AObj)) (S : AS) (r : Res) : Option (Value × Kd × AS) :=
  match r with
  | .pure v => match v with
    | some v => some (v, .still, S)
    | none => none
  | .read g => match g S with
    | some v => some (v, .read, S)
    | none => none
  | .write g => chained (g (takeIn rk (hangs true m pd) S))
  | .call g args => chained (callV x call g args (takeIn rk (hangs true m pd) S))
  | _ => none
noncomputable def drawOp (x : Cx) (call : CallF) (f : Fr) (op : Op) (rk : Nat → Nat) (wd i m : Nat) (pd : List (Nat × AObj)) (S : AS) : Option (Value × Kd × AS) :=
  match Nat.beq wd 0 with
  | true => drawSem x call rk m pd S (sem x f op)
  | false => match rawOp x f op (rk i) with
    | some (v, o) => match rawishOp op with
      | true => some (v, .raw o, S)
      | false => none
    | none => drawSem x call rk m pd S (sem x f op)
noncomputable def drawOne (x : Cx) (call : CallF) (ops : List Oper) (f : Fr) (o : Oper) (rk : Nat → Nat) (wd i m : Nat) (pd : List (Nat × AObj)) (S : AS) : Option (Value × Kd × AS) :=
  match wantedV x ops f o with
  | some b => match b with
    | true => drawOp x call f o.op rk wd i m pd S
    | false => some (undef, .still, S)
  | none => none
noncomputable def drawGo (x : Cx) (call : CallF) (N : Nat) (ops : List Oper) (rk : Nat → Nat) (wd : Nat) (ms : List Nat) (l : List Oper) : Nat → Fr → List (Nat × AObj) → AS → Option (List DR × Fr × AS) :=
  List.rec (motive := fun _ => Nat → Fr → List (Nat × AObj) → AS → Option (List DR × Fr × AS))
    (fun _ f pd S => some ([], f, takeIn rk pd S))
    (fun o _ ih i f pd S => match drawOne x call ops f o rk wd i (natAt ms i) pd S with
      | some (v, k, S1) => match putV N f o.dst v with
        | some f1 => match ih (Nat.succ i) f1 (pdNext k (natAt ms i) i pd) S1 with
          | some (rs, r) => some (⟨i, o, f, v, k, natAt ms i, pd, S, S1⟩ :: rs, r)
          | none => none
        | none => none
      | none => none) l
noncomputable def chainsOf (l : List DR) : List DR :=
  List.rec (motive := fun _ => List DR) [] (fun r _ ih => match r.k with
    | .chain => r :: ih
    | _ => ih) l
/-- all chained operations hang on the chained ones before -/
noncomputable def onC (i : Nat) (l : List DR) : Bool :=
  List.rec (motive := fun _ => Bool) true (fun c _ ih => match Nat.testBit c.m i with
    | true => ih
    | false => false) l
noncomputable def orderedC (l : List DR) : Bool :=
  List.rec (motive := fun _ => Bool) true (fun c rest ih => match onC c.i rest with
    | true => ih
    | false => false) l
/-- may the reading r come when just the chained operations before p are done? -/
noncomputable def feas (p : Nat) (r : DR) (cs : List DR) : Bool :=
  List.rec (motive := fun _ => Bool) true (fun c _ ih => match Nat.blt c.i p with
    | true => match Nat.testBit c.m r.i with
      | true => false
      | false => ih
    | false => match Nat.testBit r.m c.i with
      | true => false
      | false => ih) cs
/-- does it come then in the text's order? -/
noncomputable def ownP (p : Nat) (r : DR) (cs : List DR) : Bool :=
  match Nat.ble p r.i with
  | true => List.rec (motive := fun _ => Bool) true (fun c _ ih => match Nat.ble p c.i with
    | true => match Nat.blt c.i r.i with
      | true => false
      | false => ih
    | false => ih) cs
  | false => false
noncomputable def readAgain (x : Cx) (r : DR) (S : AS) : Bool :=
  match sem x r.f r.o.op with
  | .read g => match g S with
    | some v => veq 40 v r.v
    | none => false
  | _ => false
noncomputable def readAt (x : Cx) (cs : List DR) (p : Nat) (S : AS) (r : DR) : Bool :=
  match r.k with
  | .read => match ownP p r cs with
    | true => true
    | false => match feas p r cs with
      | true => readAgain x r S
      | false => true
  | _ => true
noncomputable def readsAt (x : Cx) (cs : List DR) (p : Nat) (S : AS) (rs : List DR) : Bool :=
  List.rec (motive := fun _ => Bool) true (fun r _ ih => match readAt x cs p S r with
    | true => ih
    | false => false) rs
noncomputable def readsAll (x : Cx) (cs rs l : List DR) : Bool :=
  List.rec (motive := fun _ => Bool) true (fun c _ ih => match readsAt x cs (Nat.succ c.i) c.post rs with
    | true => ih
    | false => false) l
/-! two stores that no edge orders -/
noncomputable def storeAt (x : Cx) (r : DR) : Option (Nat × Nat × Nat) :=
  match r.o.op with
  | .store _ a y => match ev x r.f a with
    | .pointer (some a) => some (a.block, a.off, (cellsL (ev x r.f y)).length)
    | _ => none
  | _ => none
noncomputable def apartS (a b : Option (Nat × Nat × Nat)) : Bool :=
  match a with
  | some (i, o, n) => match b with
    | some (j, p, m) => match Nat.beq i j with
      | false => true
      | true => match Nat.ble (Nat.add o n) p with
        | true => true
        | false => Nat.ble (Nat.add p m) o
    | none => false
  | none => false
noncomputable def findPair (l : List DR) : Option (DR × DR) :=
  List.rec (motive := fun _ => Option (DR × DR)) none (fun c rest ih => match rest with
    | [] => none
    | d :: _ => match Nat.testBit d.m c.i with
      | true => ih
      | false => some (c, d)) l
noncomputable def onX (s t i : Nat) (l : List DR) : Bool :=
  List.rec (motive := fun _ => Bool) true (fun c _ ih => match Nat.testBit c.m i with
    | true => ih
    | false => match Nat.beq s i with
      | true => match Nat.beq t c.i with
        | true => ih
        | false => false
      | false => false) l
noncomputable def orderedX (s t : Nat) (l : List DR) : Bool :=
  List.rec (motive := fun _ => Bool) true (fun c rest ih => match onX s t c.i rest with
    | true => ih
    | false => false) l
noncomputable def apartReads (s t : DR) (l : List DR) : Bool :=
  List.rec (motive := fun _ => Bool) true (fun r _ ih => match r.k with
    | .read => match Nat.testBit r.m s.i with
      | true => ih
      | false => match Nat.testBit t.m r.i with
        | true => ih
        | false => false
    | _ => ih) l
noncomputable def noHang (r : DR) : Bool :=
  match hangs true r.m r.pd with
  | [] => true
  | _ => false
noncomputable def pairOk (x : Cx) (rs cs : List DR) (s t : DR) : Bool :=
  match Nat.blt s.i t.i with
  | true => match apartS (storeAt x s) (storeAt x t) with
    | true => match noHang s with
      | true => match noHang t with
        | true => match orderedX s.i t.i cs with
          | true => apartReads s t rs
          | false => false
        | false => false
      | false => false
    | false => false
  | false => false
noncomputable def pairsOk (x : Cx) (rs cs : List DR) (p : Option (DR × DR)) : Bool :=
  match p with
  | some (s, t) => pairOk x rs cs s t
  | none => false
noncomputable def drawn (x : Cx) (S : AS) (rs cs : List DR) : Bool :=
  match cs with
  | [] => true
  | _ :: _ => match readsAt x cs 0 S rs with
    | true => match readsAll x cs rs cs with
      | true => match orderedC cs with
        | true => true
        | false => pairsOk x rs cs (findPair cs)
      | false => false
    | false => false
noncomputable def rawish (l : List Oper) : Bool :=
  List.rec (motive := fun _ => Bool) false (fun o _ ih => match rawishOp o.op with
    | true => true
    | false => ih) l
/-- do all hang on the first? -/
noncomputable def allHang (ms : List Nat) : Bool :=
  List.rec (motive := fun _ => Bool) true (fun m _ ih => match Nat.testBit m 0 with
    | true => ih
    | false => false) ms
/-- how many numbers are kept for blocks made out of turn (none, if just the first makes one and all others hang on it) -/
noncomputable def drawW (ms : List Nat) (ops : List Oper) : Nat :=
  match rawish ops with
  | true => match rawish ops.tail with
    | true => rankR ops ops.length
    | false => match allHang ms.tail with
      | true => 0
      | false => rankR ops ops.length
  | false => 0
noncomputable def drawOps (x : Cx) (call : CallF) (_rnd : Bool) (N : Nat) (ops : List Oper) (s : St) : Option St :=
  match drawOk (masksFrom ops []) ops with
  | true => match drawGo x call N ops (fun i => Nat.add s.S.next (rankR ops i)) (drawW (masksFrom ops []) ops) (masksFrom ops []) ops 0 s.f [] { s.S with next := Nat.add s.S.next (drawW (masksFrom ops []) ops) } with
    | some (rs, f, S) => match drawn x { s.S with next := Nat.add s.S.next (drawW (masksFrom ops []) ops) } rs (chainsOf rs) with
      | true => some ⟨f, s.ds, S⟩
      | false => none
    | none => none
  | false => none
noncomputable def jumpOf : Code → Option XE
  | .ret => some .ret
  | .exit id => some (.exit id)
  | _ => none
noncomputable def hasBody (x : Cx) (g : Nat) : Bool :=
  match x.P.funcs[g]? with
  | some fn => fn.body.isSome
  | none => false
/-- a loop over a function, after its call -/
noncomputable def rangeEnd (s : St) (D : Nat) (S : AS) : Option (XE × St) :=
  match S.heap.get (Nat.succ D) with
  | some (.loop st pend M f ps as bd) => match st with
    | .busy => none
    | _ => match pend with
      | none => some (.normal, { f := s.f, ds := .mark D :: s.ds, S := { S with heap := S.heap.set (Nat.succ D) (some (.loop .exhausted pend M f ps as bd)) } })
      | some c => match jumpOf c with
        | some e => some (e, { f := s.f, ds := .mark D :: s.ds, S := { S with heap := S.heap.set (Nat.succ D) (some (.loop .exhausted pend M f ps as bd)) } })
        | none => none
  | _ => none
/-- a loop over a function -/
noncomputable def rangeF (x : Cx) (call : CallF) (rnd : Bool) (N : Nat) (g : Operand) (ps : List Nat) (assign body : Code) (s : St) : Option (XE × St) :=
  match rnd with
  | true => none
  | false => match ev x s.f g with
    | .func (.func g) first captured => match hasBody x g with
      | false => none
      | true => match call (.func g) (first.toList ++ ([.func (.yield (Nat.succ s.S.next)) #[] #[]] ++ captured.toList)) (addObj (addObj s.S .deferred) (.loop .ready none N s.f ps assign body)) with
        | some (_, S) => rangeEnd s s.S.next S
        | none => none
    | _ => none
/-- one code; the codes within it by 'rec' -/
noncomputable def xstep (x : Cx) (call : CallF) (rnd : Bool) (N : Nat) (rec : Code → St → Option (XE × St)) (c : Code) (s : St) : Option (XE × St) :=
  match c with
  | .skip => some (.normal, s)
  | .label _ => some (.normal, s)
  | .seq a b => match rec a s with
    | some (.normal, s) => rec b s
    | r => r
  | .cond c a b => match ev x s.f c with
    | .bool t => match t with
      | true => rec a s
      | false => rec b s
    | _ => none
  | .block id c => match rec c s with
    | some (.exit i, s) => match Nat.beq i id with
      | true => some (.normal, s)
      | false => some (.exit i, s)
    | r => r
  | .loop c => match rec c s with
    | some (.normal, s) => rec (.loop c) s
    | r => r
  | .exit id => some (.exit id, s)
  | .ret => some (.ret, s)
  | .region _ ops draw => match draw with
    | false => match runOps x call rnd N ops.toList ops.toList s with
      | some s => some (.normal, s)
      | none => none
    | true => match drawOps x call rnd N ops.toList s with
      | some s => some (.normal, s)
      | none => none
  | .rangeFunc g ps assign body => rangeF x call rnd N g ps.toList assign body s
  | _ => none
noncomputable def xcode (x : Cx) (call : CallF) (rnd : Bool) (N : Nat) (n : Nat) : Code → St → Option (XE × St) :=
  Nat.rec (motive := fun _ => Code → St → Option (XE × St)) (fun _ _ => none) (fun _ ih => xstep x call rnd N ih) n
noncomputable def enterF : Nat → List Value → Fr → Fr
  | _, [], f => f
  | i, v :: l, f => enterF (i + 1) l (PT.set f i (some v))
noncomputable def enterPs (N : Nat) : List Nat → List Value → Fr → Option Fr
  | [], [], f => some f
  | p :: ps, v :: l, f => if p < N then enterPs N ps l (PT.set f p (some v)) else none
  | _, _, _ => none
noncomputable def resultsV (x : Cx) (f : Fr) (S : AS) : List ResultVar → Option (List Value)
  | [] => some []
  | .tmp t :: l => match resultsV x f S l with
    | some r => some (ev x f (.tmp t) :: r)
    | none => none
  | .cell a t :: l => match loadV x S t (ev x f (.tmp a)), resultsV x f S l with
    | some v, some r => some (v :: r)
    | _, _ => none
noncomputable def one : List Value → Value
  | [v] => v
  | l => .tuple l.toArray
/-- a deferred call of a function that defers nothing -/
noncomputable def dcall (x : Cx) (call : CallF) (n : Nat) (g : Nat) (l : List Value) (S : AS) : Option AS :=
  match x.P.funcs[g]? with
  | some fn => match fn.body with
    | some c => match xcode x call false (Nat.max l.length fn.ntmps) n c { f := enterF 0 l .leaf, ds := [], S := S } with
      | some (.exit _, _) => none
      | some (_, s) => match s.ds with
        | [] => match resultsV x s.f s.S fn.results.toList with
          | some _ => some s.S
          | none => none
        | _ => none
      | none => none
    | none => none
  | none => none
/-- the deferred calls of an activation that leaves -/
noncomputable def leaveD (dc : Nat → List Value → AS → Option AS) : List DE → AS → Option AS
  | [], S => some S
  | .quiet :: l, S => leaveD dc l S
  | .mark i :: l, S => match PT.get S.heap i with
    | some .deferred => leaveD dc l { S with heap := PT.set S.heap i none }
    | _ => none
  | .fn g a :: l, S => match dc g a S with
    | some S => leaveD dc l S
    | none => none
noncomputable def codeOf : XE → Option Code
  | .normal => none
  | .exit id => some (.exit id)
  | .ret => some .ret
noncomputable def notIn (i : Nat) (l : List Nat) : Bool :=
  List.rec (motive := fun _ => Bool) true (fun j _ ih => match Nat.beq i j with
    | true => false
    | false => ih) l
noncomputable def orUnk (v : Value) : Value :=
  match ground6 v with
  | true => v
  | false => unk
/-! is one value another one, its blocks renamed? (r: what number u's blocks have at v) -/
noncomputable def rnI (r : Nat → Option Nat) (i j : Nat) : Bool :=
  match r i with
  | some k => Nat.beq k j
  | none => false
noncomputable def rnA (r : Nat → Option Nat) (a b : Addr) : Bool :=
  match a.spot with
  | some _ => false
  | none => match b.spot with
    | some _ => false
    | none => match rnI r a.block b.block with
      | true => Nat.beq a.off b.off
      | false => false
noncomputable def rnStep (r : Nat → Option Nat) (rec : Value → Value → Bool) (u v : Value) : Bool :=
  match u with
  | .pointer (some a) => match v with
    | .pointer (some b) => rnA r a b
    | _ => false
  | .slice (some a) n k => match v with
    | .slice (some b) m j => match Nat.beq n m with
      | true => match Nat.beq k j with
        | true => rnA r a b
        | false => false
      | false => false
    | _ => false
  | .map (some a) => match v with
    | .map (some b) => rnI r a b
    | _ => false
  | .func (.func f) a c => match v with
    | .func (.func g) b d => match Nat.beq f g with
      | true => match allEq rec a.toList b.toList with
        | true => allEq rec c.toList d.toList
        | false => false
      | false => false
    | _ => false
  | .iface t u => match v with
    | .iface s v => match Nat.beq t s with
      | true => rec u v
      | false => false
    | _ => false
  | .agg a => match v with
    | .agg b => allEq rec a.toList b.toList
    | _ => false
  | .tuple a => match v with
    | .tuple b => allEq rec a.toList b.toList
    | _ => false
  | .chan (some 0) => true
  | u => match ground6 u with
    | true => veq 2 u v
    | false => false
noncomputable def rnV (r : Nat → Option Nat) (n : Nat) : Value → Value → Bool :=
  Nat.rec (motive := fun _ => Value → Value → Bool) (fun _ _ => false) (fun _ ih => rnStep r ih) n
noncomputable def rnEs (p : Value → Value → Bool) (l : List MapEntry) : List MapEntry → Bool :=
  List.rec (motive := fun _ => List MapEntry → Bool) (fun m => match m with | [] => true | _ :: _ => false)
    (fun a _ ih m => match m with
      | [] => false
      | b :: m => match veq 4 a.key b.key with
        | true => match Nat.beq a.born b.born with
          | true => match p a.val b.val with
            | true => ih m
            | false => false
          | false => false
        | false => false) l
noncomputable def rnO (r : Nat → Option Nat) (o p : AObj) : Bool :=
  match o with
  | .cells c el wh => match p with
    | .cells d el2 wh2 => match Nat.beq el el2 with
      | true => match wh == wh2 with
        | true => allEq (rnV r 9) c d
        | false => false
      | false => false
    | _ => false
  | .map es ck => match p with
    | .map es2 ck2 => match Nat.beq ck ck2 with
      | true => rnEs (rnV r 9) es es2
      | false => false
    | _ => false
  | .deferred => match p with
    | .deferred => true
    | _ => false
  | _ => false
/-! functions run outcome by outcome -/
noncomputable def bindL {α β : Type} (p : α → Option (List β)) (l : List α) : Option (List β) :=
  List.rec (motive := fun _ => Option (List β)) (some []) (fun a _ ih => match p a with
    | some r => match ih with
      | some s => some (r ++ s)
      | none => none
    | none => none) l
noncomputable def oneL {α : Type} (a : Option α) : Option (List α) :=
  match a with
  | some a => some [a]
  | none => none
noncomputable def leftL (seen : List Nat) (es : List MapEntry) : List MapEntry :=
  List.rec (motive := fun _ => List MapEntry) [] (fun e _ ih => match notIn e.born seen with
    | true => e :: ih
    | false => ih) es
noncomputable def allBelow (n : Nat) (es : List MapEntry) : Bool :=
  List.rec (motive := fun _ => Bool) true (fun e _ ih => match Nat.blt e.born n with
    | true => ih
    | false => false) es
noncomputable def rangeV (x : Cx) (t : TypeId) (m : Value) (S : AS) : Option (Value × AS) :=
  match m with
  | .map (some i) => match x.P.underlying t with
    | some (.map _ _) => match S.heap.get i with
      | some (.map _ clock) => some (.pointer (some (here S)), addObj S (.iter i clock [] clock))
      | _ => none
    | _ => none
  | _ => none
noncomputable def nexts (r m since : Nat) (seen : List Nat) (clock : Nat) (S : AS) (l : List MapEntry) : List (Value × AS) :=
  List.rec (motive := fun _ => List (Value × AS)) [] (fun e _ ih =>
    (.tuple #[.bool true, orUnk e.key, e.val], { S with heap := S.heap.set r (some (.iter m since (seen ++ [e.born]) clock)) }) :: ih) l
noncomputable def nextL (r m since : Nat) (seen : List Nat) (clock : Nat) (S : AS) (l : List MapEntry) : List (Value × AS) :=
  match l with
  | [] => [(.tuple #[.bool false], S)]
  | l => nexts r m since seen clock S l
noncomputable def nextV (it : Value) (S : AS) : Option (List (Value × AS)) :=
  match it with
  | .pointer (some a) => match a.spot with
    | some _ => none
    | none => match a.off with
      | _ + 1 => none
      | 0 => match S.heap.get a.block with
        | some (.iter m since seen last) => match S.heap.get m with
          | some (.map es clock) => match allBelow since es with
            | true => match Nat.ble since last with
              | true => some (nextL a.block m since seen clock S (leftL seen es))
              | false => none
            | false => none
          | _ => none
        | _ => none
  | _ => none
noncomputable def lastN (l : List Nat) : Option Nat :=
  List.rec (motive := fun _ => Option Nat) none (fun a _ ih => match ih with
    | some b => some b
    | none => some a) l
noncomputable def findBorn (n : Nat) (es : List MapEntry) : Option MapEntry :=
  List.rec (motive := fun _ => Option MapEntry) none (fun e _ ih => match Nat.beq e.born n with
    | true => some e
    | false => ih) es
noncomputable def entryV (it : Value) (S : AS) : Option (Value × AS) :=
  match it with
  | .pointer (some a) => match a.spot with
    | some _ => none
    | none => match a.off with
      | _ + 1 => none
      | 0 => match S.heap.get a.block with
        | some (.iter m _ seen last) => match lastN seen with
          | some st => match S.heap.get m with
            | some (.map es clock) => match Nat.beq clock last with
              | true => match findBorn st es with
                | some e => some (.tuple #[orUnk e.key, e.val], S)
                | none => none
              | false => none
            | _ => none
          | none => none
        | _ => none
  | _ => none
noncomputable def putAll (N : Nat) (s : St) (dst : Option Nat) (l : List (Value × AS)) : Option (List St) :=
  List.rec (motive := fun _ => Option (List St)) (some []) (fun p _ ih => match s.put N dst p.1 p.2 with
    | some s => match ih with
      | some r => some (s :: r)
      | none => none
    | none => none) l
noncomputable def putAllO (N : Nat) (s : St) (dst : Option Nat) (l : Option (List (Value × AS))) : Option (List St) :=
  match l with
  | some l => putAll N s dst l
  | none => none
/-- a call whose outcomes are kept apart -/
noncomputable def calleeV (x : Cx) (f : Fr) (c : Call) : Value :=
  match c.callee with
  | .value y => ev x f y
  | _ => unk
noncomputable def spreadG (x : Cx) (g : Value) : Bool :=
  match g with
  | .func fn _ _ => match fn with
    | .func g => x.spread g
    | _ => false
  | _ => false
noncomputable def callsL (_x : Cx) (callL : CallLF) (g : Value) (args : List Value) (S : AS) : Option (List (Value × AS)) :=
  match g with
  | .func fn first captured => match fn with
    | .func g => callL g (first.toList ++ (args ++ captured.toList)) S
    | _ => none
  | _ => none
noncomputable def stepM (x : Cx) (call : CallF) (callL : CallLF) (rnd : Bool) (N : Nat) (ops : List Oper) (s : St) (o : Oper) : Option (List St) :=
  match o.guard with
  | some _ => oneL (stepOp x call rnd N ops s o)
  | none => match o.op with
    | .range t y => oneL (s.putW N o.dst (rangeV x t (ev x s.f y) s.S))
    | .next it b => match b with
      | true => none
      | false => putAllO N s o.dst (nextV (ev x s.f it) s.S)
    | .entry it => oneL (s.putW N o.dst (entryV (ev x s.f it) s.S))
    | .call c => match spreadG x (calleeV x s.f c) with
      | true => putAllO N s o.dst (callsL x callL (calleeV x s.f c) (evs x s.f c.args.toList) s.S)
      | false => oneL (stepOp x call rnd N ops s o)
    | _ => oneL (stepOp x call rnd N ops s o)
noncomputable def runM (x : Cx) (call : CallF) (callL : CallLF) (rnd : Bool) (N : Nat) (ops : List Oper) (l : List Oper) : St → Option (List St) :=
  List.rec (motive := fun _ => St → Option (List St)) (fun s => some [s]) (fun o _ ih s => match stepM x call callL rnd N ops s o with
    | some l => bindL ih l
    | none => none) l
/-- a region that draws one bit: a new bool, two stores that no edge orders, a load: where the bool's address and the bit go -/
noncomputable def isBoolK (o : Operand) : Bool :=
  match o with
  | .const (.bool _) => true
  | _ => false
noncomputable def isTmp (o : Operand) (t : Nat) : Bool :=
  match o with
  | .tmp u => Nat.beq u t
  | _ => false
noncomputable def coinShape (x : Cx) (ops : List Oper) : Option (Nat × Nat) :=
  match ops with
  | [o0, o1, o2, o3] => match o0.op with
    | .alloc t => match o1.op with
      | .store t1 a1 v1 => match o2.op with
        | .store t2 a2 v2 => match o3.op with
          | .load t3 a3 => match o0.dst with
            | some d => match o3.dst with
              | some b => match o1.dst with
                | none => match o2.dst with
                  | none => match (isTmp a1 d && (isTmp a2 d && (isTmp a3 d && (isBoolK v1 && (isBoolK v2 && (Nat.beq t1 t && (Nat.beq t2 t && (Nat.beq t3 t && (o0.guard.isNone && (o1.guard.isNone && (o2.guard.isNone && (o3.guard.isNone && (match Nat.beq d b with | true => false | false => true))))))))))))) with
                    | true => match sizeT x t with
                      | some 1 => match zeroT x t with
                        | some (.bool _) => match isAggT x t with
                          | some false => some (d, b)
                          | _ => none
                        | _ => none
                      | _ => none
                    | false => none
                  | _ => none
                | _ => none
              | none => none
            | none => none
          | _ => none
        | _ => none
      | _ => none
    | _ => none
  | _ => none
noncomputable def coinOrd (ms : List Nat) (ops : List Oper) : Bool :=
  match masksOk ms ops 0 with
  | true => match progOk ops with
    | true => Nat.testBit (natAt ms 1) 0 && (Nat.testBit (natAt ms 2) 0 && (Nat.testBit (natAt ms 3) 0 && (Nat.testBit (natAt ms 3) 1 && Nat.testBit (natAt ms 3) 2)))
    | false => false
  | false => false
noncomputable def coinOf (x : Cx) (ops : List Oper) : Option (Nat × Nat) :=
  match coinShape x ops with
  | some r => match coinOrd (masksFrom ops []) ops with
    | true => some r
    | false => none
  | none => none
noncomputable def coinSt (N : Nat) (s : St) (d b : Nat) (v : Bool) : Option St :=
  match putV N s.f (some d) unk with
  | some f => match putV N f (some b) (.bool v) with
    | some f => some ⟨f, s.ds, { heap := s.S.heap, next := Nat.succ s.S.next }⟩
    | none => none
  | none => none
noncomputable def coinSts (N : Nat) (s : St) (d b : Nat) : Option (List St) :=
  match coinSt N s d b true with
  | some s1 => match coinSt N s d b false with
    | some s2 => some [s1, s2]
    | none => none
  | none => none
noncomputable def withN (l : Option (List St)) : Option (List (XE × St)) :=
  match l with
  | some l => some (l.map fun s => (.normal, s))
  | none => none
noncomputable def afterN (p : St → Option (List (XE × St))) (r : XE × St) : Option (List (XE × St)) :=
  match r.1 with
  | .normal => p r.2
  | _ => some [r]
noncomputable def leftBlock (id : Nat) (r : XE × St) : XE × St :=
  match r.1 with
  | .exit i => match Nat.beq i id with
    | true => (.normal, r.2)
    | false => r
  | _ => r
noncomputable def bindO (p : XE × St → Option (List (XE × St))) (l : Option (List (XE × St))) : Option (List (XE × St)) :=
  match l with
  | some l => bindL p l
  | none => none
noncomputable def rangeEnds (s : St) (D : Nat) (l : List (Value × AS)) : Option (List (XE × St)) :=
  List.rec (motive := fun _ => Option (List (XE × St))) (some []) (fun p _ ih => match rangeEnd s D p.2 with
    | some r => match ih with
      | some l => some (r :: l)
      | none => none
    | none => none) l
/-- a loop over a function whose outcomes are kept apart -/
noncomputable def rangeL (x : Cx) (callL : CallLF) (rnd : Bool) (N : Nat) (g : Operand) (ps : List Nat) (assign body : Code) (s : St) : Option (List (XE × St)) :=
  match rnd with
  | true => none
  | false => match ev x s.f g with
    | .func (.func g) first captured => match hasBody x g with
      | false => none
      | true => match callL g (first.toList ++ ([.func (.yield (Nat.succ s.S.next)) #[] #[]] ++ captured.toList)) (addObj (addObj s.S .deferred) (.loop .ready none N s.f ps assign body)) with
        | some l => rangeEnds s s.S.next l
        | none => none
    | _ => none
/-- one code, outcome by outcome -/
noncomputable def ystep (x : Cx) (call : CallF) (callL : CallLF) (rnd : Bool) (N : Nat) (rec : Code → St → Option (List (XE × St))) (c : Code) (s : St) : Option (List (XE × St)) :=
  match c with
  | .skip => some [(.normal, s)]
  | .label _ => some [(.normal, s)]
  | .exit id => some [(.exit id, s)]
  | .ret => some [(.ret, s)]
  | .seq a b => bindO (afterN (rec b)) (rec a s)
  | .cond c a b => match ev x s.f c with
    | .bool t => match t with
      | true => rec a s
      | false => rec b s
    | _ => none
  | .block id c => match rec c s with
    | some l => some (l.map (leftBlock id))
    | none => none
  | .loop c => bindO (afterN (rec (.loop c))) (rec c s)
  | .region _ ops draw => match draw with
    | false => withN (runM x call callL rnd N ops.toList ops.toList s)
    | true => match coinOf x ops.toList with
      | some (d, b) => withN (coinSts N s d b)
      | none => withN (oneL (drawOps x call rnd N ops.toList s))
  | .rangeFunc g ps assign body => match spreadG x (ev x s.f g) with
    | true => rangeL x callL rnd N g ps.toList assign body s
    | false => oneL (rangeF x call rnd N g ps.toList assign body s)
  | _ => none
noncomputable def ycode (x : Cx) (call : CallF) (callL : CallLF) (rnd : Bool) (N : Nat) (n : Nat) : Code → St → Option (List (XE × St)) :=
  Nat.rec (motive := fun _ => Code → St → Option (List (XE × St))) (fun _ _ => none) (fun _ ih => ystep x call callL rnd N ih) n
/-! what two heaps have in common -/
noncomputable def keepO (o p : Option AObj) : Option AObj :=
  match o with
  | some o => match p with
    | some p => match rnO some o p with
      | true => some o
      | false => none
    | none => none
  | none => none
noncomputable def keepT (t : PT AObj) : PT AObj → PT AObj :=
  PT.rec (motive := fun _ => PT AObj → PT AObj) (fun _ => .leaf) (fun _ x _ ihl ihr t => match t with
    | .leaf => .leaf
    | .node l' x' r' => .node (ihl l') (keepO x x') (ihr r')) t
noncomputable def merge2 (a b : Value × AS) : Option (Value × AS) :=
  match veq 9 a.1 b.1 with
  | true => some (a.1, { heap := keepT a.2.heap b.2.heap, next := (match Nat.ble a.2.next b.2.next with | true => b.2.next | false => a.2.next) })
  | false => none
noncomputable def mergeL (a : Value × AS) (l : List (Value × AS)) : Option (Value × AS) :=
  List.rec (motive := fun _ => Option (Value × AS)) (some a) (fun b _ ih => match ih with
    | some c => merge2 c b
    | none => none) l
noncomputable def endM (x : Cx) (dc : Nat → List Value → AS → Option AS) (fn : Func) (r : XE × St) : Option (Value × AS) :=
  match r.1 with
  | .exit _ => none
  | _ => match leaveD dc r.2.ds r.2.S with
    | some S => match resultsV x r.2.f S fn.results.toList with
      | some vs => some (one vs, S)
      | none => none
    | none => none
noncomputable def endsM (x : Cx) (dc : Nat → List Value → AS → Option AS) (fn : Func) (l : List (XE × St)) : Option (Value × AS) :=
  match bindL (fun r => oneL (endM x dc fn r)) l with
  | some (a :: l) => mergeL a l
  | _ => none
/-- functions whose outcomes are kept apart -/
noncomputable def callLFn (x : Cx) (n : Nat) (call : CallF) (callL : CallLF) : CallLF := fun g args S =>
  match x.P.funcs[g]? with
  | some fn => match fn.body with
    | some c => match ycode x call callL false (Nat.max args.length fn.ntmps) n c { f := enterF 0 args .leaf, ds := [], S := S } with
      | some l => bindL (fun r => oneL (endM x (dcall x call n) fn r)) l
      | none => none
    | none => none
  | none => none
noncomputable def xcallL (x : Cx) (n : Nat) (call : CallF) (m : Nat) : CallLF :=
  Nat.rec (motive := fun _ => CallLF) (fun _ _ _ => none) (fun _ ih => callLFn x n call ih) m
noncomputable def callM (x : Cx) (n : Nat) (ih : CallF) (fn : Func) (c : Code) (args : List Value) (S : AS) : Option (Value × AS) :=
  match ycode x ih (xcallL x n ih 9) false (Nat.max args.length fn.ntmps) n c { f := enterF 0 args .leaf, ds := [], S := S } with
  | some l => endsM x (dcall x ih n) fn l
  | none => none
noncomputable def callFn (x : Cx) (hook : CallF) (n : Nat) (ih : CallF) (g : Nat) (args : List Value) (S : AS) : Option (Value × AS) :=
  match hook (.func g) args S with
  | some r => some r
  | none => match x.P.funcs[g]? with
    | some fn => match fn.body with
      | some c => match x.multi g with
        | true => callM x n ih fn c args S
        | false => match xcode x ih false (Nat.max args.length fn.ntmps) n c { f := enterF 0 args .leaf, ds := [], S := S } with
          | some (.exit _, _) => none
          | some (_, s) => match leaveD (dcall x ih n) s.ds s.S with
            | some S => match resultsV x s.f S fn.results.toList with
              | some vs => some (one vs, S)
              | none => none
            | none => none
          | none => none
      | none => none
    | none => none
noncomputable def yieldEnd (l : Nat) (e : XE) (S : AS) : Option (Value × AS) :=
  match S.heap.get l with
  | some (.loop .busy none M g qs as bd) => match e with
    | .normal => some (.bool true, { S with heap := S.heap.set l (some (.loop .ready none M g qs as bd)) })
    | .exit id => some (.bool false, { S with heap := S.heap.set l (some (.loop .done (some (.exit id)) M g qs as bd)) })
    | .ret => some (.bool false, { S with heap := S.heap.set l (some (.loop .done (some .ret) M g qs as bd)) })
  | _ => none
noncomputable def callYield (x : Cx) (n : Nat) (ih : CallF) (l : Nat) (args : List Value) (S : AS) : Option (Value × AS) :=
  match S.heap.get l with
  | some (.loop .ready none N f ps assign body) => match enterPs N ps args f with
    | some f1 => match xcode x ih true N n assign { f := f1, ds := [], S := S } with
      | some (.normal, s) => match s.S.heap.get l with
        | some (.loop .ready none M g qs as bd) =>
          match xcode x ih true N n body { f := s.f, ds := s.ds, S := { s.S with heap := s.S.heap.set l (some (.loop .busy none M g qs as bd)) } } with
          | some (e, s) => yieldEnd l e s.S
          | none => none
        | _ => none
      | _ => none
    | none => none
  | _ => none
noncomputable def xcallStep (x : Cx) (hook : CallF) (n : Nat) (ih : CallF) (f : Fn) (args : List Value) (S : AS) : Option (Value × AS) :=
  match f with
  | .func g => callFn x hook n ih g args S
  | .yield l => callYield x n ih l args S
  | _ => none
noncomputable def xcall (x : Cx) (hook : CallF) (n : Nat) : CallF :=
  Nat.rec (motive := fun _ => CallF) (fun _ _ _ => none) (fun n ih => xcallStep x hook n ih) n

/-! calls proved by themselves: what they hand back is moved to where the heap ends -/
noncomputable def mapL (p : Value → Value) (l : List Value) : List Value :=
  List.rec (motive := fun _ => List Value) [] (fun a _ ih => p a :: ih) l
noncomputable def mapA (p : Value → Value) (a : Array Value) : Array Value := (mapL p a.toList).toArray
noncomputable def shI (G d i : Nat) : Nat :=
  match Nat.blt i G with
  | true => i
  | false => Nat.add i d
noncomputable def shStep (G d : Nat) (rec : Value → Value) (v : Value) : Value :=
  match v with
  | .pointer (some a) => match a.spot with
    | some _ => unk
    | none => .pointer (some ⟨shI G d a.block, a.off, none⟩)
  | .slice (some a) n k => match a.spot with
    | some _ => unk
    | none => .slice (some ⟨shI G d a.block, a.off, none⟩) n k
  | .map (some i) => .map (some (shI G d i))
  | .func fn a c => match fn with
    | .func f => .func (.func f) (mapA rec a) (mapA rec c)
    | _ => unk
  | .iface t v => .iface t (rec v)
  | .agg c => .agg (mapA rec c)
  | .tuple c => .tuple (mapA rec c)
  | v => orUnk v
noncomputable def shV (G d n : Nat) : Value → Value :=
  Nat.rec (motive := fun _ => Value → Value) (fun v => orUnk v) (fun _ ih v => shStep G d ih v) n
noncomputable def shEs (p : Value → Value) (l : List MapEntry) : List MapEntry :=
  List.rec (motive := fun _ => List MapEntry) [] (fun m _ ih => { m with val := p m.val } :: ih) l
noncomputable def shO (G d : Nat) (o : AObj) : Option AObj :=
  match o with
  | .cells c el wh => some (.cells (mapL (shV G d 8) c) el wh)
  | .map es ck => some (.map (shEs (shV G d 8) es) ck)
  | _ => none
/-- the objects l, from number i on, are put down -/
noncomputable def putObjs (l : List (Option AObj)) : Nat → PT AObj → PT AObj :=
  List.rec (motive := fun _ => Nat → PT AObj → PT AObj) (fun _ t => t) (fun o _ ih i t => ih (Nat.succ i) (t.set i o)) l
noncomputable def shOs (G d : Nat) (l : List AObj) : List (Option AObj) :=
  List.rec (motive := fun _ => List (Option AObj)) [] (fun o _ ih => shO G d o :: ih) l
structure Entry where
  g : Nat
  args : List Value
  v : Value
  os : List AObj
noncomputable def entryR (G : Nat) (E : Entry) (S : AS) : Value × AS :=
  (shV G (Nat.sub S.next G) 8 E.v, { heap := putObjs (shOs G (Nat.sub S.next G) E.os) S.next S.heap, next := Nat.add S.next E.os.length })
noncomputable def hookOf (G : Nat) (l : List Entry) (g : Nat) (args : List Value) (S : AS) : Option (Value × AS) :=
  List.rec (motive := fun _ => Option (Value × AS)) none (fun E _ ih => match Nat.beq E.g g with
    | true => match allEq (veq 4) E.args args with
      | true => match Nat.ble G S.next with
        | true => some (entryR G E S)
        | false => ih
      | false => ih
    | false => ih) l
noncomputable def hookF (G : Nat) (l : List Entry) : CallF := fun f args S =>
  match f with
  | .func g => hookOf G l g args S
  | _ => none

/-- is each object, the heap's under the number beside it, renamed? -/
noncomputable def rnOs (r : Nat → Option Nat) (t : PT AObj) (os : List AObj) : List Nat → Bool :=
  List.rec (motive := fun _ => List Nat → Bool) (fun m => match m with | [] => true | _ :: _ => false)
    (fun o _ ih m => match m with
      | [] => false
      | j :: m => match t.get j with
        | some p => match rnO r o p with
          | true => ih m
          | false => false
        | none => false) os
noncomputable def unlike (l : List Nat) : Bool :=
  List.rec (motive := fun _ => Bool) true (fun i rest ih => match notIn i rest with
    | true => ih
    | false => false) l
noncomputable def ofRow (G : Nat) (ro : List Nat) (i : Nat) : Option Nat :=
  match Nat.blt i G with
  | true => some i
  | false => nth ro (Nat.sub i G)
noncomputable def entryFits (G : Nat) (E : Entry) (ro : List Nat) (r : Option (Value × AS)) : Bool :=
  match r with
  | none => false
  | some (v, S) => match unlike ro with
    | true => match rnV (ofRow G ro) 9 E.v v with
      | true => rnOs (ofRow G ro) S.heap E.os ro
      | false => false
    | false => false
/-- an entry is checked: its call is run from an empty heap -/
noncomputable def entryOk (x : Cx) (hs : List Entry) (k : Nat) (E : Entry) (ro : List Nat) : Bool :=
  entryFits x.G E ro (xcall x (hookF x.G hs) k (.func E.g) E.args { heap := .leaf, next := x.G })

/-! calls with the blocks at which they look -/
structure StE where
  g : Nat
  args : List Value
  n : Nat
  ins : List (Nat × AObj)
  v : Value
  m : Nat
  outs : List (Nat × AObj)
noncomputable def insOk (t : PT AObj) (l : List (Nat × AObj)) : Bool :=
  List.rec (motive := fun _ => Bool) true (fun p _ ih => match t.get p.1 with
    | some q => match rnO some p.2 q with
      | true => ih
      | false => false
    | none => false) l
noncomputable def dropIns (l : List (Nat × AObj)) : PT AObj → PT AObj :=
  List.rec (motive := fun _ => PT AObj → PT AObj) (fun t => t) (fun p _ ih t => ih (t.set p.1 none)) l
noncomputable def putOuts (l : List (Nat × AObj)) : PT AObj → PT AObj :=
  List.rec (motive := fun _ => PT AObj → PT AObj) (fun t => t) (fun p _ ih t => ih (t.set p.1 (some p.2))) l
noncomputable def insS (E : StE) : AS := { heap := putOuts E.ins .leaf, next := E.n }
noncomputable def outsS (E : StE) : AS := { heap := putOuts E.outs .leaf, next := E.m }
noncomputable def stR (E : StE) (S : AS) : Value × AS := (E.v, { heap := putOuts E.outs (dropIns E.ins S.heap), next := E.m })
noncomputable def hookT (l : List StE) (g : Nat) (args : List Value) (S : AS) : Option (Value × AS) :=
  List.rec (motive := fun _ => Option (Value × AS)) none (fun E _ ih => match Nat.beq E.g g with
    | true => match Nat.beq E.n S.next with
      | true => match allEq (rnV some 9) E.args args with
        | true => match insOk S.heap E.ins with
          | true => some (stR E S)
          | false => ih
        | false => ih
      | false => ih
    | false => ih) l
noncomputable def hookA (G : Nat) (l : List Entry) (ss : List StE) : CallF := fun f args S =>
  match f with
  | .func g => match hookT ss g args S with
    | some r => some r
    | none => hookOf G l g args S
  | _ => none
noncomputable def stFits (E : StE) (r : Option (Value × AS)) : Bool :=
  match r with
  | none => false
  | some (v, S) => match Nat.ble S.next E.m with
    | true => match rnV some 9 E.v v with
      | true => insOk S.heap E.outs
      | false => false
    | false => false
noncomputable def stOk (x : Cx) (hs : List Entry) (ss : List StE) (k : Nat) (E : StE) : Bool :=
  stFits E (xcall x (hookA x.G hs ss) k (.func E.g) E.args (insS E))
end Go.X
