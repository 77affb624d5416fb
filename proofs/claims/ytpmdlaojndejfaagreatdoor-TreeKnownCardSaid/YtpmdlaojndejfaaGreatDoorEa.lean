/- An evaluator over plain values: what the program's code does when memory is a list of blocks of its own. Definitions alone. -/
import Derived.RangeFuncLeaves
import Derived.Orders
namespace Go.Proofs.YtpmdlaojndejfaaGreatDoor.E
open Go

/-- A value of the evaluator: `lit` the machine's own value; `arr` a slice that nobody writes, by its rows of cells; `row` the address of cells that nobody writes; `own`, `ptr` a slice, an address in a block of the evaluator's own memory. -/
inductive V where
  | lit (v : Value)
  | arr (rows : List (List V))
  | row (cells : List V)
  | agg (cells : List V)
  | tup (vs : List V)
  | own (id ver off len : Nat)
  | ptr (id ver row off : Nat)
  | fn (f : FuncId) (caps : List V)
  | yld (id : Nat)
  | mp (id : Nat)
  | it (id : Nat)
  deriving Inhabited

inductive Blk where
  | free
  | gone
  | rows (sz ver : Nat) (rs : List (List V))
  | map (es : List (V × V)) (clock : Nat)
  | iter (s : ByteArray) (pos : Nat)
  | dfr
  | loop (ready : Bool) (pending : Option Code) (tmps : List V) (ps : List Tmp) (assign body : Code)
  deriving Inhabited

abbrev Heap := List Blk
structure St where
  tmps : List V
  H : Heap
  ds : List Nat

inductive X where
  | normal
  | exit (id : Nat)
  | ret

/-- What the evaluator is told of the program: which functions work on the caller's memory; contracts of library functions; the cells of listed variables. -/
structure Env where
  P : Program
  heapFn : FuncId → Bool
  prim : FuncId → Option (List V → Heap → Option (V × Heap))
  glob : Nat → Option (List V)

structure Self where
  call : FuncId → List V → Heap → Option (V × Heap)
  code : Option Nat → Code → St → Option (X × St)

def un : V := .lit undef

def V.isLit : V → Bool
  | .lit _ => true
  | _ => false
def V.cells : V → List V
  | .agg cs => cs
  | v => [v]
def ofValue : Value → V
  | .agg cs => .agg (cs.toList.map .lit)
  | .func (.func f) a b => if a.size = 0 ∧ b.size = 0 then .fn f [] else .lit (.func (.func f) a b)
  | v => .lit v
def litOf : V → Option Value
  | .lit v => some v
  | _ => none
def litsOf : List V → Option (List Value)
  | [] => some []
  | v :: vs => (litOf v).bind fun x => (litsOf vs).bind fun xs => some (x :: xs)
def toValue? : V → Option Value
  | .lit v => some v
  | .agg cs => (litsOf cs).map fun l => .agg l.toArray
  | _ => none

/-- A program of the machine that asks nothing but the program, run. -/
def pureRun (P : Program) {α : Type} : Sem α → Option α
  | .pure a => some a
  | .program k => pureRun P (k P)
  | .mark _ k => pureRun P k
  | _ => none

def sizeT (P : Program) (t : TypeId) : Nat := P.cellsOf t
def aggT (P : Program) (t : TypeId) : Bool :=
  match P.underlying t with
  | some (.struct _) | some (.array _ _) => true
  | _ => false
def zeroT (P : Program) (t : TypeId) : Option V := ((P.info? t).bind (·.zero)).map ofValue

def partT (P : Program) (t : TypeId) (cs : List V) (off : Nat) : Option V :=
  if (P.underlying t).isSome then
    if aggT P t then (if off + sizeT P t ≤ cs.length then some (.agg ((cs.drop off).take (sizeT P t))) else none)
    else cs[off]?
  else none

def evalO (tmps : List V) : Operand → V
  | .tmp t => tmps.getD t un
  | .const v => ofValue v
  | .global g => .lit (.pointer (some ⟨g, 0, none⟩))
  | .func f => .fn f []

def put (tmps : List V) (dst : Option Tmp) (v : V) : List V :=
  match dst with
  | some d => tmps.set d v
  | none => tmps

/-- What a block's version tells of the machine's block: (2 t + 1) TAG and above: a variable of type t, whole; (2 t + 2) TAG and above: a row of t's that 'append' laid. -/
def TAG : Nat := 1099511627776
/-- A new block at its place: behind all others, or in a place that was left free for it. -/
def place (H : Heap) (nid : Nat) (b : Blk) : Option Heap :=
  if nid = H.length then some (H ++ [b])
  else match H[nid]? with
    | some .free => some (H.set nid b)
    | _ => none
def placeAll (H : Heap) (nid : Nat) : List Blk → Option Heap
  | [] => some H
  | b :: bs => (place H nid b).bind fun H' => placeAll H' (nid + 1) bs
def scalarV : V → Bool
  | .lit (.agg _) | .lit (.tuple _) | .agg _ | .tup _ => false
  | _ => true

def loadT (E : Env) (H : Heap) (t : TypeId) : V → Option V
  | .ptr id ver r off =>
    match H[id]? with
    | some (.rows _ ver' rs) => if ver' = ver then (rs[r]?).bind fun cs => partT E.P t cs off else none
    | _ => none
  | .row cs => partT E.P t cs 0
  | .lit (.pointer (some ⟨g, 0, none⟩)) => (E.glob g).bind fun cs => partT E.P t cs 0
  | _ => none

def storeT (E : Env) (H : Heap) (t : TypeId) (a v : V) : Option Heap :=
  match a with
  | .ptr id ver r off =>
    match H[id]? with
    | some (.rows sz ver' rs) =>
      if ver' = ver ∧ v.cells.length = sizeT E.P t ∧ sizeT E.P t ≠ 0 ∧ v.cells.all scalarV = true then
        (rs[r]?).bind fun cs =>
          if off + v.cells.length ≤ cs.length then
            some (H.set id (.rows sz ver' (rs.set r (cs.take off ++ v.cells ++ cs.drop (off + v.cells.length)))))
          else none
      else none
    | _ => none
  | _ => none

def fieldT (P : Program) (s : TypeId) (f : Nat) : Option Field :=
  match P.underlying s with
  | some (.struct fs) => fs[f]?
  | _ => none

def fieldA (P : Program) (s : TypeId) (f : Nat) (a : V) : Option V :=
  (fieldT P s f).bind fun fd =>
    if sizeT P fd.type = 0 then none else
    match a with
    | .ptr id ver r off => some (.ptr id ver r (off + fd.offset))
    | .row cs => some (.row (cs.drop fd.offset))
    | _ => none

def fieldV (P : Program) (s : TypeId) (f : Nat) (x : V) : Option V :=
  (fieldT P s f).bind fun fd =>
    match x with
    | .agg cs => partT P fd.type cs fd.offset
    | _ => none

def intOf : V → Option Int
  | .lit (.int _ n) => some n
  | _ => none

/-- The rows that a slice shows. -/
def rowsOf (H : Heap) : V → Option (List (List V))
  | .lit (.slice none 0 0) => some []
  | .arr rows => some rows
  | .own id ver off len =>
    match H[id]? with
    | some (.rows _ ver' rs) => if ver' = ver ∧ off + len ≤ rs.length then some ((rs.drop off).take len) else none
    | _ => none
  | _ => none

def indexA (P : Program) (H : Heap) (t : TypeId) (x i : V) : Option V :=
  (intOf i).bind fun n =>
  if n < 0 then none else
  match P.underlying t, x with
  | some (.slice e), .own id ver off len =>
    if n.toNat < len then
      match H[id]? with
      | some (.rows sz ver' _) => if ver' = ver ∧ sz = sizeT P e ∧ sz ≠ 0 then some (.ptr id ver (off + n.toNat) 0) else none
      | _ => none
    else none
  | some (.slice e), .arr rows => (rows[n.toNat]?).bind fun r => if r.length = sizeT P e ∧ sizeT P e ≠ 0 then some (.row r) else none
  | some (.array len e), .ptr id ver r off => if n.toNat < len ∧ sizeT P e ≠ 0 then some (.ptr id ver r (off + n.toNat * sizeT P e)) else none
  | some (.array len e), .row cs => if n.toNat < len ∧ sizeT P e ≠ 0 then some (.row (cs.drop (n.toNat * sizeT P e))) else none
  | _, _ => none

def boundOf (d : Nat) : Option V → Option Nat
  | none => some d
  | some v => (intOf v).bind fun n => if 0 ≤ n then some n.toNat else none

def sliceV (P : Program) (H : Heap) (t : TypeId) (x : V) (lo hi : Option V) : Option V :=
  match P.underlying t, x with
  | some (.slice e), .own id ver off len =>
    (boundOf 0 lo).bind fun l => (boundOf len hi).bind fun h =>
      match H[id]? with
      | some (.rows sz ver' rs) => if ver' = ver ∧ sz = sizeT P e ∧ sz ≠ 0 ∧ l ≤ h ∧ off + h ≤ rs.length then some (.own id ver (off + l) (h - l)) else none
      | _ => none
  | some (.slice e), .arr rows =>
    (boundOf 0 lo).bind fun l => (boundOf rows.length hi).bind fun h =>
      if l ≤ h ∧ h ≤ rows.length ∧ sizeT P e ≠ 0 ∧ rows.all (fun r => r.length == sizeT P e) = true then some (.arr ((rows.drop l).take (h - l))) else none
  | _, _ => none

def rowsOfX (H : Heap) : V → Option (List (List V))
  | .lit (.string b) => some (b.data.toList.map fun c => [.lit (.int .u8 c.toNat)])
  | x => rowsOf H x

def appendArgs (P : Program) (ts : Array TypeId) : Option TypeId :=
  match ts[0]?, ts[1]? with
  | some t, some u =>
    match P.underlying t, P.underlying u with
    | some (.slice e), some (.slice _) | some (.slice e), some .string => some e
    | _, _ => none
  | _, _ => none

/-- 'append'. -/
def appendV (P : Program) (nid : Nat) (H : Heap) (ts : Array TypeId) (s x : V) : Option (V × Heap) :=
  (appendArgs P ts).bind fun e => (zeroT P e).bind fun z => (rowsOfX H x).bind fun nr =>
    if sizeT P e ≠ 0 ∧ z.cells.length = sizeT P e ∧ z.cells.all scalarV = true ∧ P.bytesOf e ≤ 1000000 ∧ nr.length ≤ 1000000 ∧ nr.all (fun r => r.length == sizeT P e && r.all scalarV) = true then
      match s with
      | .lit (.slice none 0 0) => if nr.length = 0 then some (s, H) else (place H nid (.rows (sizeT P e) ((2 * e + 2) * TAG) nr)).map (.own nid ((2 * e + 2) * TAG) 0 nr.length, ·)
      | .own id ver off len =>
        match H[id]? with
        | some (.rows sz ver' rs) =>
          if ver' = ver ∧ sz = sizeT P e ∧ off + len ≤ rs.length ∧ len ≤ 1000000 then
            if nr.length = 0 then some (s, H)
            else if off + len + nr.length ≤ rs.length then
              some (.own id ver off (len + nr.length), H.set id (.rows sz ver (rs.take (off + len) ++ nr ++ rs.drop (off + len + nr.length))))
            else if ((ver + 1) / TAG = 0 ∨ (ver / TAG = 2 * e + 2 ∧ (ver + 1) / TAG = 2 * e + 2 ∧ off = 0)) then some (.own id (ver + 1) 0 (len + nr.length), H.set id (.rows sz (ver + 1) ((rs.drop off).take len ++ nr)))
            else none
          else none
        | _ => none
      | _ => none
    else none

def findI (d : TypeDesc) (k : Value) : List (V × V) → Nat → Option (Option (Nat × V))
  | [], _ => some none
  | (k', v) :: es, i => (litOf k').bind fun k' =>
    match Instr.sameNow d k k' with
    | some true => some (some (i, v))
    | some false => findI d k es (i + 1)
    | none => none

def keyDesc (P : Program) (t : TypeId) : Option TypeDesc :=
  match P.underlying t with
  | some .string => some .string
  | some (.int k) => some (.int k)
  | _ => none

def lookupV (P : Program) (H : Heap) (t : TypeId) (m k : V) (ok : Bool) : Option V :=
  match P.underlying t, m with
  | some (.map kt e), .mp id =>
    (keyDesc P kt).bind fun d => (litOf k).bind fun kv =>
    match H[id]? with
    | some (.map es _) =>
      (findI d kv es 0).bind fun r =>
        match r with
        | some (_, v) => some (if ok then .tup [v, .lit (.bool true)] else v)
        | none => (zeroT P e).map fun z => if ok then .tup [z, .lit (.bool false)] else z
    | _ => none
  | _, _ => none

def mapPut (P : Program) (H : Heap) (t : TypeId) (m k v : V) : Option Heap :=
  match P.underlying t, m with
  | some (.map kt _), .mp id =>
    (keyDesc P kt).bind fun d => (litOf k).bind fun kv =>
    match H[id]? with
    | some (.map es c) =>
      (findI d kv es 0).bind fun r =>
        match r with
        | some (i, _) => some (H.set id (.map (es.set i (.lit kv, v)) c))
        | none => some (H.set id (.map (es ++ [(.lit kv, v)]) (c + 1)))
    | _ => none
  | _, _ => none

def fillV (place : Nat → Option (Nat × Nat)) (cells : List V) : List (Nat × V) → Option (List V)
  | [] => some cells
  | (i, v) :: rest =>
    match place i with
    | none => none
    | some (off, size) =>
      if v.cells.length = size ∧ off + size ≤ cells.length ∧ v.cells.all scalarV = true then
        fillV place (cells.take off ++ v.cells ++ cells.drop (off + v.cells.length)) rest
      else none
def placesE (P : Program) (fs : List Field) : Option (List (Nat × Nat)) := fs.mapM fun f => (P.info? f.type).map fun i => (f.offset, i.size)
def buildV (P : Program) (t : TypeId) (ps : List (Nat × V)) : Option V :=
  (zeroT P t).bind fun z =>
  if z.cells.all scalarV = false then none else
  match P.underlying t with
  | some (.struct fs) => (placesE P fs.toList).bind fun pl => (fillV (pl.toArray[·]?) z.cells ps).map .agg
  | some (.array _ e) => (P.info? e).bind fun ie => (fillV (fun i => some (i * ie.size, ie.size)) z.cells ps).map .agg
  | _ => none

/-- The cells of a slice, by rows. -/
def toRows (sz n : Nat) (cs : List V) : List (List V) := (List.range n).map fun i => (cs.drop (i * sz)).take sz

def yieldedV (ops : Array Oper) (tmps : List V) (j : Nat) : Option Bool :=
  match ((ops[j]?).bind (·.dst)).bind (tmps[·]?) with
  | some (.lit (.bool b)) => some b
  | _ => none

def noSel : Op → Bool
  | .select .. | .defer _ | .go _ => false
  | _ => true
def toOps (P : Program) (tmps : List V) (o : Oper) : Option V :=
  -- every operand is a value of the machine's own: the machine's operation itself, if it looks at no memory
  if noSel o.op && o.op.operands.toList.all (fun x => (toValue? (evalO tmps x)).isSome) then
    match pureRun P (execOp (fun x => (toValue? (evalO tmps x)).getD undef) o) with
    | some (.value v) => some (ofValue v)
    | some .skip => some un
    | _ => none
  else none

/-- A value that is no nil, beside nil. -/
def nilCmp (P : Program) (t : TypeId) (x y : V) : Bool :=
  match P.underlying t, x, y with
  | some (.slice _), .own .., .lit (.slice none 0 0) | some (.slice _), .arr .., .lit (.slice none 0 0) => true
  | some (.func ..), .fn .., .lit .nilFunc => true
  | some (.pointer _), .ptr .., .lit (.pointer none) | some (.pointer _), .row .., .lit (.pointer none) => true
  | _, _, _ => false

/-- The bytes of rows of one cell each. -/
def bytesOf : List (List V) → Option (List UInt8)
  | [] => some []
  | [.lit (.int .u8 n)] :: l => if 0 ≤ n ∧ n < 256 then (bytesOf l).map (n.toNat.toUInt8 :: ·) else none
  | _ => none
def sliceData (H : Heap) (id ver off len : Nat) : Option V :=
  if len = 0 then none else
  match H[id]? with
  | some (.rows _ ver' rs) => if ver' = ver ∧ off + len ≤ rs.length then some (.ptr id ver off 0) else none
  | _ => none
def strData (P : Program) (H : Heap) (ts : Array TypeId) (id ver : Nat) (n : Int) : Option (V × Heap) :=
  match H[id]?, ts.toList with
  | some (.rows sz ver' rs), [pt, _] =>
    match P.underlying pt with
    | some (.pointer e) => if ver' = ver ∧ sz = 1 ∧ sizeT P e = 1 ∧ ver / TAG = 2 * e + 2 ∧ 0 < n ∧ n.toNat ≤ rs.length ∧ n ≤ 1000000 then
        (bytesOf (rs.take n.toNat)).map fun l => (.lit (.string ⟨l.toArray⟩), H.set id .gone) else none
    | _ => none
  | _, _ => none

def lenSl (P : Program) (ts : Array TypeId) : Bool :=
  match ts[0]? with
  | some t => match P.underlying t with | some (.slice _) => true | _ => false
  | none => false

/-- An operation that calls nothing. -/
def opE (E : Env) (tmps : List V) (nid : Nat) (H : Heap) (o : Oper) : Option (V × Heap) :=
  let ρ := evalO tmps
  let v (x : Option V) : Option (V × Heap) := x.map (·, H)
  let P := E.P
  match o.op with
  | .move x | .assign x => some (ρ x, H)
  | .pick c a b => match ρ c with | .lit (.bool t) => some (if t then ρ a else ρ b, H) | _ => none
  | .alloc t => (zeroT P t).bind fun z => if z.cells.all scalarV = false then none else (place H nid (.rows z.cells.length ((2 * t + 1) * TAG) [z.cells])).map (.ptr nid ((2 * t + 1) * TAG) 0 0, ·)
  | .box _ x => if (ρ x).cells.all scalarV = false then none else (place H nid (.rows (ρ x).cells.length 0 [(ρ x).cells])).map (.ptr nid 0 0 0, ·)
  | .build t ps => v (buildV P t (ps.toList.map fun (i, x) => (i, ρ x)))
  | .buildSlice t n ps =>
    match P.underlying t with
    | some (.slice e) =>
      if n * sizeT P e ≤ 1000000 ∧ sizeT P e ≠ 0 then
        (zeroT P e).bind fun z => if z.cells.length ≠ sizeT P e ∨ z.cells.all scalarV = false then none else (fillV (fun i => some (i * sizeT P e, sizeT P e)) ((List.range (n * sizeT P e)).map fun i => z.cells.getD (i % z.cells.length) un) (ps.toList.map fun (i, x) => (i, ρ x))).bind fun cs =>
          (place H nid (.rows (sizeT P e) 0 (toRows (sizeT P e) n cs))).map (.own nid 0 0 n, ·)
      else none
    | _ => none
  | .load t a => v (loadT E H t (ρ a))
  | .store t a x => (storeT E H t (ρ a) (ρ x)).map (un, ·)
  | .nilCheck x =>
    match ρ x with
    | .ptr a b c d => some (.ptr a b c d, H)
    | .row cs => some (.row cs, H)
    | .fn f cs => some (.fn f cs, H)
    | _ => none
  | .fieldAddr s x f => v (fieldA P s f (ρ x))
  | .field s x f => v (fieldV P s f (ρ x))
  | .indexAddr t x i => v (indexA P H t (ρ x) (ρ i))
  | .extract x i => match ρ x with | .tup vs => v (vs[i]?) | _ => none
  | .makeFunc (.func f) first caps => if first.isEmpty then some (.fn f (caps.toList.map ρ), H) else none
  | .makeMap _ none => (place H nid (.map [] 0)).map (.mp nid, ·)
  | .makeSlice t l c =>
    match P.underlying t, intOf (ρ l), intOf (ρ c) with
    | some (.slice e), some n, some m => if 0 ≤ n ∧ n = m ∧ n ≤ 1000000 ∧ sizeT P e ≠ 0 ∧ P.bytesOf e ≤ 1000000 then
        (zeroT P e).bind fun z => if z.cells.length ≠ sizeT P e ∨ z.cells.all scalarV = false then none else (place H nid (.rows (sizeT P e) 0 (List.replicate n.toNat z.cells))).map (.own nid 0 0 n.toNat, ·) else none
    | _, _, _ => none
  | .lookup t m k ok => v (lookupV P H t (ρ m) (ρ k) ok)
  | .mapUpdate t m k x | .insert t m k x => (mapPut P H t (ρ m) (ρ k) (ρ x)).map (un, ·)
  | .range t x => match P.underlying t, ρ x with
    | some .string, .lit (.string s) => (place H nid (.iter s 0)).map (.it nid, ·)
    | _, _ => none
  | .next x true => match ρ x with
    | .it id => match H[id]? with
      | some (.iter s pos) =>
        if pos < s.size then
          let d := Utf8.decode s pos
          some (.tup [.lit (.bool true), .lit (goInt pos), .lit (.int .i32 d.1)], H.set id (.iter s (pos + d.2)))
        else some (.tup [.lit (.bool false)], H)
      | _ => none
    | _ => none
  | .slice t x lo hi none =>
    match ρ x with
    | .lit _ => v (toOps P tmps o)
    | y => v (sliceV P H t y (lo.map ρ) (hi.map ρ))
  | .binOp op t x y _ =>
    if nilCmp P t (ρ x) (ρ y) then
      match op with
      | .eql => some (.lit (.bool false), H)
      | .neq => some (.lit (.bool true), H)
      | _ => none
    else v (toOps P tmps o)
  | .call { callee := .builtin b, args, argTypes } =>
    match b, args.toList.map ρ with
    | .append, [s, x] => appendV P nid H argTypes s x
    | .len, [.own _ _ _ n] => if lenSl P argTypes then some (.lit (goInt n), H) else none
    | .len, [.arr rows] => if lenSl P argTypes then some (.lit (goInt rows.length), H) else none
    | .unsafeSliceData, [.own id ver off len] => v (sliceData H id ver off len)
    | .unsafeString, [.ptr id ver 0 0, .lit (.int .i64 n)] => strData P H argTypes id ver n
    | _, _ => v (toOps P tmps o)
  | _ => v (toOps P tmps o)

/-! Calls on memory of their own. -/
def flatR (rows : List (List V)) : Bool := rows.all fun r => r.all V.isLit
mutual
/-- The value as it is seen by somebody who never writes. -/
def freeze (H : Heap) : Nat → V → Option V
  | 0, _ => none
  | k + 1, v => match v with
    | .lit v => some (.lit v)
    | .arr rows => some (.arr rows)
    | .row cs => some (.row cs)
    | .agg cs => (freezes H k cs).map .agg
    | .tup cs => (freezes H k cs).map .tup
    | .fn f cs => (freezes H k cs).map (.fn f)
    | .own id ver off len => (rowsOf H (.own id ver off len)).bind fun rs => if flatR rs then some (.arr rs) else (freezess H k rs).map .arr
    | .ptr id ver r off =>
      match H[id]? with
      | some (.rows _ ver' rs) => if ver' = ver then (rs[r]?).bind fun cs => if off ≤ cs.length then (freezes H k (cs.drop off)).map .row else none else none
      | _ => none
    | _ => none
def freezes (H : Heap) : Nat → List V → Option (List V)
  | 0, _ => none
  | _ + 1, [] => some []
  | k + 1, v :: vs => (freeze H k v).bind fun x => (freezes H k vs).map (x :: ·)
def freezess (H : Heap) : Nat → List (List V) → Option (List (List V))
  | 0, _ => none
  | _ + 1, [] => some []
  | k + 1, v :: vs => (freezes H k v).bind fun x => (freezess H k vs).map (x :: ·)
end

/-- The cells at a value's top. -/
def tops : V → List V
  | .tup vs => vs.flatMap V.cells
  | v => v.cells
def ownId : V → Option Nat
  | .own id _ _ _ => some id
  | _ => none
def noOwnC : V → Bool
  | .lit _ | .arr _ | .row _ => true
  | .fn _ cs => cs.all fun | .lit _ | .arr _ | .row _ => true | _ => false
  | _ => false
def noOwn (v : V) : Bool := (tops v).all noOwnC
def noShareC : V → Bool
  | .lit _ | .own .. => true
  | _ => false

def nodup : List Nat → Bool
  | [] => true
  | a :: l => !(l.contains a) && nodup l

def shiftC (n : Nat) : V → V
  | .own id ver off len => .own (n + id) ver off len
  | v => v
def shiftA (n : Nat) : V → V
  | .agg cs => .agg (cs.map (shiftC n))
  | v => shiftC n v
/-- A value of a small memory, that memory laid at n. -/
def shift (n : Nat) : V → V
  | .tup vs => .tup (vs.map (shiftA n))
  | v => shiftA n v

def flatOwn (H : Heap) (c : V) : Bool :=
  match c with
  | .own .. => match rowsOf H c with | some rs => flatR rs | none => false
  | _ => false
def trC (H : Heap) (c : V) (K : Heap) : Option (V × Heap) :=
  match c with
  | .own id _ _ len =>
    (rowsOf H c).bind fun rs =>
      match H[id]? with
      | some (.rows sz _ _) => some (.own K.length 0 0 len, K ++ [.rows sz 0 rs])
      | _ => none
  | c => some (c, K)
def trCs (H : Heap) : List V → Heap → Option (List V × Heap)
  | [], K => some ([], K)
  | v :: vs, K => (trC H v K).bind fun x => (trCs H vs x.2).map fun y => (x.1 :: y.1, y.2)
def trA (H : Heap) (v : V) (K : Heap) : Option (V × Heap) :=
  match v with
  | .agg cs => (trCs H cs K).map fun y => (.agg y.1, y.2)
  | v => trC H v K
def trAs (H : Heap) : List V → Heap → Option (List V × Heap)
  | [], K => some ([], K)
  | v :: vs, K => (trA H v K).bind fun x => (trAs H vs x.2).map fun y => (x.1 :: y.1, y.2)
def tr (H : Heap) (v : V) : Option (V × Heap) :=
  match v with
  | .tup vs => (trAs H vs []).map fun y => (.tup y.1, y.2)
  | v => trA H v []

/-- A call that works on memory of its own: what it hands back: slices of its own, flat and apart, or a value that nobody writes. -/
def pcall (self : Self) (f : FuncId) (args : List V) : Option (V × Heap) :=
  (self.call f args []).bind fun (v, H') =>
    if (tops v).all (fun c => noOwnC c || flatOwn H' c) && nodup ((tops v).filterMap ownId) then tr H' v else (freeze H' 1000 v).map (·, [])

def freezeAll (H : Heap) : List V → Option (List V)
  | [] => some []
  | v :: vs => (freeze H 1000 v).bind fun x => (freezeAll H vs).map (x :: ·)

def bodyless (P : Program) (f : FuncId) : Bool :=
  match P.funcs[f]? with
  | some fn => fn.body.isNone
  | none => false
def goodFn (P : Program) (f : FuncId) : Bool :=
  match P.funcs[f]? with
  | some fn => !(fn.name == "runtime.NumGoroutine")
  | none => false
def valuesOf : List V → Option (List Value)
  | [] => some []
  | v :: vs => (toValue? v).bind fun x => (valuesOf vs).map (x :: ·)

def callE (E : Env) (self : Self) (f : FuncId) (args : List V) (nid : Nat) (H : Heap) : Option (V × Heap) :=
  if goodFn E.P f = false then none else
  match E.prim f with
  | some p => if bodyless E.P f then none else p args H
  | none =>
    if bodyless E.P f then
      (valuesOf args).bind fun xs =>
        match pureRun E.P (callFunc f xs.toArray) with
        | some (.value v) => some (ofValue v, H)
        | _ => none
    else if E.heapFn f then self.call f args H
    else (if args.all noOwn then some args else freezeAll H args).bind fun args' => (pcall self f args').bind fun r =>
      if (args.all noOwn || (tops r.1).all noShareC) && decide (r.2.length ≤ 2) then (placeAll H nid r.2).map (shift nid r.1, ·) else none

def setAll (tmps : List V) : List Tmp → List V → List V
  | p :: ps, v :: vs => setAll (tmps.set p v) ps vs
  | _, _ => tmps

def loopAt (H : Heap) (l : Nat) (old ready : Bool) (pend : Option Code) : Option Heap :=
  match H[l]? with
  | some (.loop r none tmps ps a b) => if r = old then some (H.set l (.loop ready pend tmps ps a b)) else none
  | _ => none

def yieldE (self : Self) (l : Nat) (args : List V) (H : Heap) : Option (V × Heap) :=
  match H[l]? with
  | some (.loop true none tmps ps assign body) =>
    if args.length = ps.length then
      (self.code (some l) assign ⟨setAll tmps ps args, H, []⟩).bind fun
        | (.normal, s) =>
          if s.ds.isEmpty = false then none else
          (loopAt s.H l true false none).bind fun H1 =>
            (self.code (some l) body ⟨s.tmps, H1, []⟩).bind fun
              | (.normal, s2) => (loopAt s2.H l false true none).map (.lit (.bool true), ·)
              | (.ret, s2) => (loopAt s2.H l false false (some .ret)).map (.lit (.bool false), ·)
              | (.exit id, s2) => (loopAt s2.H l false false (some (.exit id))).map (.lit (.bool false), ·)
        | _ => none
    else none
  | _ => none

def stepE (E : Env) (self : Self) (tmps : List V) (nid : Nat) (H : Heap) (o : Oper) : Option (V × Heap) :=
  match o.op with
  | .call { callee := .value g, args, .. } =>
    match evalO tmps g with
    | .fn f caps => callE E self f (args.toList.map (evalO tmps) ++ caps) nid H
    | .yld l => yieldE self l (args.toList.map (evalO tmps)) H
    | _ => none
  | _ => opE E tmps nid H o

def regionE (E : Env) (self : Self) (ops : Array Oper) : List Oper → St → Option St
  | [], s => some s
  | o :: os, s =>
    if Region.wanted o (yieldedV ops s.tmps) then
      (stepE E self s.tmps s.H.length s.H o).bind fun (v, H) => regionE E self ops os ⟨put s.tmps o.dst v, H, s.ds⟩
    else regionE E self ops os ⟨put s.tmps o.dst un, s.H, s.ds⟩

/-! Regions that draw their order: the order of the text, each operation on a view in which what may come before or behind it is hidden. -/
inductive DK where
  | pure | read | new | call | store | other
  deriving DecidableEq

def kindD (E : Env) (chk : Bool) (o : Oper) : DK :=
  match o.op with
  | .move _ | .assign _ | .pick .. | .binOp .. | .unOp .. | .extract .. | .field .. | .build .. | .index .. | .fieldAddr .. | .nilCheck _ | .makeInterface .. | .makeFunc .. | .convert .. => .pure
  | .load .. | .lookup .. | .indexAddr .. | .slice _ _ _ _ none | .call { callee := .builtin .unsafeSliceData, .. } => .read
  | .alloc _ | .box .. | .buildSlice .. | .makeSlice .. | .makeMap _ none => .new
  | .store .. => if chk then .store else .other
  | .call { callee := .builtin .len, .. } | .call { callee := .builtin .cap, .. } | .call { callee := .builtin .min, .. } | .call { callee := .builtin .max, .. } => .pure
  | .call { callee := .value (.func f), .. } => if E.heapFn f = false ∧ (E.prim f).isNone then .call else .other
  | _ => .other

def dirs (o : Oper) : List Nat := (o.after.toList.filter (Region.binds .any)).map (·.on)
/-- Of each operation, as a number's bits: those that it waits for. -/
def ancM (acc : List Nat) (l : List Nat) : Nat := l.foldl (fun s e => s ||| 2 ^ e ||| acc.getD e 0) 0
def ancL (acc : List Nat) : List Oper → List Nat
  | [] => acc
  | o :: os => ancL (acc ++ [ancM acc (dirs o)]) os
def ancS (ops : List Oper) : List Nat := ancL [] ops
def waits (ops : List Oper) (j i : Nat) : Bool := ((ancS ops).getD j 0).testBit i
def unordered (ops : List Oper) (i j : Nat) : Bool := i != j && !waits ops i j && !waits ops j i

/-- An operation that lays no block. -/
def dry (E : Env) (o : Oper) : Bool :=
  match kindD E true o with
  | .new => false
  | .call => match E.P.underlying o.type with
    | some (.int _) | some .bool | some .string => true
    | _ => false
  | .other => false
  | _ => true
def slotsN (E : Env) : List Oper → Nat
  | [] => 0
  | o :: os => (if dry E o then 0 else 2) + slotsN E os
/-- Places for new blocks, counted from where the region begins. -/
def offL (E : Env) (no base : Nat) : List Oper → List Nat
  | [] => []
  | o :: os => if dry E o then no :: offL E no base os else base :: offL E no (base + 2) os
def offS (E : Env) (ops : List Oper) : List Nat := offL E (slotsN E ops + 1000000) 0 ops
def makes (E : Env) (o : Oper) : Bool :=
  match kindD E true o with
  | .new | .call => !dry E o
  | _ => false

def hidN (E : Env) (ops : List Oper) (i : Nat) : List Nat := (List.range ops.length).flatMap fun j =>
  match (ops[j]?).map (makes E) with
  | some true => if unordered ops i j then [(offS E ops).getD j 0, (offS E ops).getD j 0 + 1] else []
  | _ => []
def hidS (E : Env) (chk : Bool) (ops : List Oper) (i : Nat) : List Nat := (List.range ops.length).filter fun j =>
  (match (ops[j]?).map (kindD E chk) with | some .store => true | _ => false) && unordered ops i j

/-- What is known of an operation in a region: its place, what it must not look at. -/
structure DItem where
  i : Nat
  o : Oper
  off : Nat
  dry : Bool
  hn : List Nat
  hs : List Nat

def itemS (E : Env) (chk : Bool) (ops : List Oper) (i : Nat) (o : Oper) : DItem := ⟨i, o, (offS E ops).getD i 0, dry E o, hidN E ops i, hidS E chk ops i⟩
def itemsL (E : Env) (chk : Bool) (ops : List Oper) : Nat → List Oper → List DItem
  | _, [] => []
  | i, o :: os => itemS E chk ops i o :: itemsL E chk ops (i + 1) os

def maskH (H : Heap) : List Nat → Heap
  | [] => H
  | p :: ps => maskH (H.set p .free) ps
def unmaskH (H H' : Heap) : List Nat → Heap
  | [] => H'
  | p :: ps => match H[p]? with
    | some b => (unmaskH H H' ps).set p b
    | none => unmaskH H H' ps

def storeAt (tmps : List V) (o : Oper) (sid : Nat) : Bool :=
  match o.op with
  | .store _ a _ => match evalO tmps a with | .ptr id _ _ _ => id == sid | _ => false
  | _ => true

/-- A run of a region: whether stores are bound to blocks; where the new places begin, how many they are; the blocks of the stores. -/
structure DRun where
  chk : Bool
  base : Nat
  room : Nat
  sid : List Nat

def hidI (r : DRun) (it : DItem) : List Nat := it.hn.map (r.base + ·) ++ it.hs.map (r.sid.getD · 0)
def posI (r : DRun) (it : DItem) (n : Nat) : Nat := if it.dry then n + 1 else r.base + it.off
def okI (r : DRun) (it : DItem) (tmps : List V) (n : Nat) : Bool :=
  (!r.chk || storeAt tmps it.o (r.sid.getD it.i 0)) && (it.dry || (decide (r.base + r.room ≤ n) && !(hidI r it).contains (r.base + it.off) && !(hidI r it).contains (r.base + it.off + 1)))

def stepI (E : Env) (self : Self) (ops : Array Oper) (r : DRun) (it : DItem) (s : St) : Option St :=
  if Region.wanted it.o (yieldedV ops s.tmps) then
    if okI r it s.tmps s.H.length then
      (stepE E self s.tmps (posI r it s.H.length) (maskH s.H (hidI r it)) it.o).bind fun (v, H) =>
        if it.dry || decide (r.base + r.room ≤ H.length) then some ⟨put s.tmps it.o.dst v, unmaskH s.H H (hidI r it), s.ds⟩ else none
    else none
  else some ⟨put s.tmps it.o.dst un, s.H, s.ds⟩

def runI (E : Env) (self : Self) (ops : Array Oper) (r : DRun) : List DItem → St → Option St
  | [], s => some s
  | it :: is, s => (stepI E self ops r it s).bind fun s' => runI E self ops r is s'

/-- Two operations of which neither waits for the other: may they stand in whatever order? -/
def freeD (E : Env) (chk : Bool) (ops : Array Oper) (x y : Oper) : Bool :=
  x.apart ops y && (match kindD E chk x, kindD E chk y with
    | .other, .pure | .other, .new | .pure, .other | .new, .other => true
    | .other, _ | _, .other => false
    | _, _ => true)
def okPair (E : Env) (chk : Bool) (ops : Array Oper) (i j : Nat) : Bool :=
  match ops[i]?, ops[j]? with
  | some x, some y => freeD E chk ops x y
  | _, _ => false
def okD (E : Env) (chk : Bool) (ops : Array Oper) : Bool :=
  (List.range ops.size).all fun j => decide ((ancS ops.toList).getD j 0 < 2 ^ j) && (List.range j).all fun i => waits ops.toList j i || okPair E chk ops i j

def sidOf (tmps : List V) (o : Oper) : Nat :=
  match o.op with
  | .store _ a _ => match evalO tmps a with | .ptr id _ _ _ => id | _ => 0
  | _ => 0
def needSid (E : Env) (ops : List Oper) : Bool :=
  (List.range ops.length).any fun i => (ops[i]?).map (kindD E true) == some .store && (List.range ops.length).any fun j => unordered ops i j && ((ops[j]?).map (kindD E true) == some .read || (ops[j]?).map (kindD E true) == some .call || (ops[j]?).map (kindD E true) == some .store)

/-- What of a region is known ahead of its run. -/
def planS (E : Env) (chk : Bool) (ops : Array Oper) : Option (List DItem) :=
  if okD E chk ops then some (itemsL E chk ops.toList 0 ops.toList) else none

/-- The places of the stores: read off a first run. -/
def runP (E : Env) (self : Self) (ops : Array Oper) (r : DRun) : List DItem → St → Option St
  | [], s => some s
  | it :: is, s =>
    if Region.wanted it.o (yieldedV ops s.tmps) then
      (stepE E self s.tmps (posI r it s.H.length) s.H it.o).bind fun (v, H) => runP E self ops r is ⟨put s.tmps it.o.dst v, H, s.ds⟩
    else runP E self ops r is ⟨put s.tmps it.o.dst un, s.H, s.ds⟩

/-- Free places at the end are taken off. -/
def dropF : Heap → Heap
  | [] => []
  | b :: bs => match dropF bs, b with
    | [], .free => []
    | r, b => b :: r
def trimH : Nat → Heap → Heap
  | 0, H => dropF H
  | _ + 1, [] => []
  | n + 1, b :: H => b :: trimH n H

def padded (E : Env) (ops : Array Oper) (s : St) : St := ⟨s.tmps, s.H ++ List.replicate (slotsN E ops.toList) .free, s.ds⟩
def regionD (E : Env) (self : Self) (ops : Array Oper) (s : St) : Option St :=
  if E.P.follows .mixedOrders = false then none else
  (if needSid E ops.toList then
    (planS E true ops).bind fun its => (runP E self ops ⟨true, s.H.length, slotsN E ops.toList, []⟩ its (padded E ops s)).bind fun s1 =>
      runI E self ops ⟨true, s.H.length, slotsN E ops.toList, ops.toList.map (sidOf s1.tmps)⟩ its (padded E ops s)
  else
    (planS E false ops).bind fun its => runI E self ops ⟨false, s.H.length, slotsN E ops.toList, []⟩ its (padded E ops s)).map fun r => ⟨r.tmps, trimH s.H.length r.H, r.ds⟩

def loopEnd (H : Heap) (l : Nat) : Option (X × Heap) :=
  match H[l]? with
  | some (.loop true none _ _ _ _) => some (.normal, H.set l .gone)
  | some (.loop _ (some .ret) _ _ _ _) => some (.ret, H.set l .gone)
  | some (.loop _ (some (.exit id)) _ _ _ _) => some (.exit id, H.set l .gone)
  | _ => none

/-- Where a loop over a function begins: the records that are laid; the marks. -/
def loopBegin (ro : Option Nat) (H : Heap) (ds : List Nat) (L : Blk) : Option (Nat × Heap × List Nat) :=
  match ro with
  | none => some (H.length + 1, H ++ [.dfr, L], H.length :: ds)
  | some r => match H[r]? with
    | some (.loop ..) => some (H.length, H ++ [L], ds)
    | _ => none

def codeE (E : Env) (self : Self) (ro : Option Nat) : Code → St → Option (X × St)
  | .skip, s => some (.normal, s)
  | .region _ ops draw, s => if draw then (regionD E self ops s).map (.normal, ·) else (regionE E self ops ops.toList s).map (.normal, ·)
  | .seq a b, s => (codeE E self ro a s).bind fun
    | (.normal, s') => codeE E self ro b s'
    | r => some r
  | .cond c a b, s =>
    match evalO s.tmps c with
    | .lit (.bool t) => if t then codeE E self ro a s else codeE E self ro b s
    | _ => none
  | .block id b, s => (codeE E self ro b s).bind fun
    | (.exit i, s') => if i = id then some (.normal, s') else some (.exit i, s')
    | r => some r
  | .loop b, s => (codeE E self ro b s).bind fun
    | (.normal, s') => self.code ro (.loop b) s'
    | r => some r
  | .exit id, s => some (.exit id, s)
  | .ret, s => some (.ret, s)
  | .rangeFunc g ps assign body, s =>
    match evalO s.tmps g with
    | .fn f caps =>
      if goodFn E.P f = false ∨ bodyless E.P f = true then none else
      (loopBegin ro s.H s.ds (.loop true none s.tmps ps.toList assign body)).bind fun (l, H0, ds) =>
        (self.call f (.yld l :: caps) H0).bind fun (_, H) => (loopEnd H l).map fun (x, H') => (x, ⟨s.tmps, H', ds⟩)
    | _ => none
  | _, _ => none

def resE (E : Env) (tmps : List V) (H : Heap) : List ResultVar → Option (List V)
  | [] => some []
  | .tmp t :: l => (resE E tmps H l).map (tmps.getD t un :: ·)
  | .cell a t :: l => (loadT E H t (tmps.getD a un)).bind fun v => (resE E tmps H l).map (v :: ·)

/-- The marks are taken up when a function is left. -/
def unmark (H : Heap) : List Nat → Option Heap
  | [] => some H
  | d :: ds => match H[d]? with
    | some .dfr => unmark (H.set d .gone) ds
    | _ => none

def bodyE (E : Env) (self : Self) (f : FuncId) (args : List V) (H : Heap) : Option (V × Heap) :=
  (E.P.funcs[f]?).bind fun fn => fn.body.bind fun c =>
    (codeE E self none c ⟨args ++ List.replicate (fn.ntmps - args.length) un, H, []⟩).bind fun
      | (.exit _, _) => none
      | (_, s) => (unmark s.H s.ds).bind fun H' => (resE E s.tmps H' fn.results.toList).map fun
        | [v] => (v, H')
        | vs => (.tup vs, H')

def run (E : Env) : Nat → Self
  | 0 => ⟨fun _ _ _ => none, fun _ _ _ => none⟩
  | k + 1 => ⟨bodyE E (run E k), codeE E (run E k)⟩
end Go.Proofs.YtpmdlaojndejfaaGreatDoor.E
