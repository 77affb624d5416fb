/- An evaluator over plain values: what the program's code does when memory is a list of blocks of its own. Definitions alone. -/
import Derived.RangeFuncLeaves
import Derived.Orders
import Derived.Below
import Derived.ChangeArms
import Derived.ChangeShapes
import Derived.SizedLaws
import Derived.Laws.CopyRow
import Derived.Laws.Entries
import Derived.Laws.Cells
namespace Go.Proofs.YtpmdlaojndejfaaGreatDoor.E
open Go

/-- A value of the evaluator: `lit` the machine's own value; `arr` a slice that nobody writes, by its rows of cells; `row` the address of cells that nobody writes; `own`, `ptr` a slice, an address in a block of the evaluator's own memory. -/
inductive V where
  | lit (v : Value)
  | arr (rows : List (List V))
  | row (cells : List V)
  | agg (cells : List V)
  | tup (vs : List V)
  | own (id ver off len : Nat)
  | ptr (id ver row off : Nat)
  | fn (f : FuncId) (caps : List V)
  | yld (id : Nat)
  | mp (id : Nat)
  | it (id : Nat)
  deriving Inhabited

inductive Blk where
  | free
  | gone
  | rows (sz ver : Nat) (rs : List (List V))
  | map (es : List (V × V)) (clock : Nat)
  | iter (s : ByteArray) (pos : Nat)
  | dfr
  | loop (ready : Bool) (pending : Option Code) (tmps : List V) (ps : List Tmp) (assign body : Code)
  deriving Inhabited

abbrev Heap := List Blk
/-- What is deferred: the mark of a loop over a function; a function's call. -/
inductive Dr where
  | mark (id : Nat)
  | fn (f : FuncId) (args : List V)
structure St where
  tmps : List V
  H : Heap
  ds : List Dr

/-- How code ends; how a call ends. -/
inductive X where
  | normal
  | exit (id : Nat)
  | ret
  | pan (x : Value)
inductive Oc where
  | ret (v : V)
  | pan (x : Value)

/-- What the evaluator is told of the program: which functions work on the caller's memory, which of them can panic; contracts of library functions; the cells of listed variables; what else is known of the world where it begins. -/
structure Env where
  P : Program
  heapFn : FuncId → Bool
  mayPan : FuncId → Bool
  prim : FuncId → Option (List V → Heap → Option (V × Heap))
  glob : Nat → Option (List V)
  inv : World → Prop

structure Self where
  callX : FuncId → List V → Heap → Option (Oc × Heap)
  code : Option Nat → Code → St → Option (X × St)
/-- A call that returns. -/
def retO : Option (Oc × Heap) → Option (V × Heap)
  | some (.ret v, H) => some (v, H)
  | _ => none
def Self.call (self : Self) (f : FuncId) (args : List V) (H : Heap) : Option (V × Heap) := retO (self.callX f args H)

def un : V := .lit undef

def V.isLit : V → Bool
  | .lit _ => true
  | _ => false
def V.cells : V → List V
  | .agg cs => cs
  | v => [v]
def ofValue : Value → V
  | .agg cs => .agg (cs.toList.map .lit)
  | .func (.func f) a b => if a.size = 0 ∧ b.size = 0 then .fn f [] else .lit (.func (.func f) a b)
  | v => .lit v
def litOf : V → Option Value
  | .lit v => some v
  | _ => none
def litsOf : List V → Option (List Value)
  | [] => some []
  | v :: vs => (litOf v).bind fun x => (litsOf vs).bind fun xs => some (x :: xs)
def toValue? : V → Option Value
  | .lit v => some v
  | .agg cs => (litsOf cs).map fun l => .agg l.toArray
  | _ => none

/-- A program of the machine that asks nothing but the program, run. -/
def pureRun (P : Program) {α : Type} : Sem α → Option α
  | .pure a => some a
  | .program k => pureRun P (k P)
  | .mark _ k => pureRun P k
  | _ => none

def sizeT (P : Program) (t : TypeId) : Nat := P.cellsOf t
def aggT (P : Program) (t : TypeId) : Bool :=
  match P.underlying t with
  | some (.struct _) | some (.array _ _) => true
  | _ => false
def zeroT (P : Program) (t : TypeId) : Option V := ((P.info? t).bind (·.zero)).map ofValue

def partT (P : Program) (t : TypeId) (cs : List V) (off : Nat) : Option V :=
  if (P.underlying t).isSome then
    if aggT P t then (if off + sizeT P t ≤ cs.length then some (.agg ((cs.drop off).take (sizeT P t))) else none)
    else cs[off]?
  else none

def evalO (tmps : List V) : Operand → V
  | .tmp t => tmps.getD t un
  | .const v => ofValue v
  | .global g => .lit (.pointer (some ⟨g, 0, none⟩))
  | .func f => .fn f []

def put (tmps : List V) (dst : Option Tmp) (v : V) : List V :=
  match dst with
  | some d => tmps.set d v
  | none => tmps

/-- What a block's version tells of the machine's block: (2 t + 1) TAG and above: a variable of type t, whole; (2 t + 2) TAG and above: a row of t's that 'append' laid. -/
def TAG : Nat := 1099511627776
/-- A new block at its place: behind all others, or in a place that was left free for it. -/
def place (H : Heap) (nid : Nat) (b : Blk) : Option Heap :=
  if nid = H.length then some (H ++ [b])
  else match H[nid]? with
    | some .free => some (H.set nid b)
    | _ => none
def placeAll (H : Heap) (nid : Nat) : List Blk → Option Heap
  | [] => some H
  | b :: bs => (place H nid b).bind fun H' => placeAll H' (nid + 1) bs
def scalarV : V → Bool
  | .lit (.agg _) | .lit (.tuple _) | .agg _ | .tup _ => false
  | _ => true

def loadT (E : Env) (H : Heap) (t : TypeId) : V → Option V
  | .ptr id ver r off =>
    match H[id]? with
    | some (.rows _ ver' rs) => if ver' = ver then (rs[r]?).bind fun cs => partT E.P t cs off else none
    | _ => none
  | .row cs => partT E.P t cs 0
  | .lit (.pointer (some ⟨g, 0, none⟩)) => (E.glob g).bind fun cs => partT E.P t cs 0
  | _ => none

def storeT (E : Env) (H : Heap) (t : TypeId) (a v : V) : Option Heap :=
  match a with
  | .ptr id ver r off =>
    match H[id]? with
    | some (.rows sz ver' rs) =>
      if ver' = ver ∧ v.cells.length = sizeT E.P t ∧ sizeT E.P t ≠ 0 ∧ v.cells.all scalarV = true then
        (rs[r]?).bind fun cs =>
          if off + v.cells.length ≤ cs.length then
            some (H.set id (.rows sz ver' (rs.set r (cs.take off ++ v.cells ++ cs.drop (off + v.cells.length)))))
          else none
      else none
    | _ => none
  | _ => none

def fieldT (P : Program) (s : TypeId) (f : Nat) : Option Field :=
  match P.underlying s with
  | some (.struct fs) => fs[f]?
  | _ => none

def fieldA (P : Program) (s : TypeId) (f : Nat) (a : V) : Option V :=
  (fieldT P s f).bind fun fd =>
    if sizeT P fd.type = 0 then none else
    match a with
    | .ptr id ver r off => some (.ptr id ver r (off + fd.offset))
    | .row cs => some (.row (cs.drop fd.offset))
    | _ => none

def fieldV (P : Program) (s : TypeId) (f : Nat) (x : V) : Option V :=
  (fieldT P s f).bind fun fd =>
    match x with
    | .agg cs => partT P fd.type cs fd.offset
    | _ => none

def intOf : V → Option Int
  | .lit (.int _ n) => some n
  | _ => none

/-- The rows that a slice shows. -/
def rowsOf (H : Heap) : V → Option (List (List V))
  | .lit (.slice none 0 0) => some []
  | .arr rows => some rows
  | .own id ver off len =>
    match H[id]? with
    | some (.rows _ ver' rs) => if ver' = ver ∧ off + len ≤ rs.length then some ((rs.drop off).take len) else none
    | _ => none
  | _ => none

def indexA (P : Program) (H : Heap) (t : TypeId) (x i : V) : Option V :=
  (intOf i).bind fun n =>
  if n < 0 then none else
  match P.underlying t, x with
  | some (.slice e), .own id ver off len =>
    if n.toNat < len then
      match H[id]? with
      | some (.rows sz ver' _) => if ver' = ver ∧ sz = sizeT P e ∧ sz ≠ 0 then some (.ptr id ver (off + n.toNat) 0) else none
      | _ => none
    else none
  | some (.slice e), .arr rows => (rows[n.toNat]?).bind fun r => if r.length = sizeT P e ∧ sizeT P e ≠ 0 then some (.row r) else none
  | some (.array len e), .ptr id ver r off => if n.toNat < len ∧ sizeT P e ≠ 0 then some (.ptr id ver r (off + n.toNat * sizeT P e)) else none
  | some (.array len e), .row cs => if n.toNat < len ∧ sizeT P e ≠ 0 then some (.row (cs.drop (n.toNat * sizeT P e))) else none
  | _, _ => none

def boundOf (d : Nat) : Option V → Option Nat
  | none => some d
  | some v => (intOf v).bind fun n => if 0 ≤ n then some n.toNat else none

def sliceV (P : Program) (H : Heap) (t : TypeId) (x : V) (lo hi : Option V) : Option V :=
  match P.underlying t, x with
  | some (.slice e), .own id ver off len =>
    (boundOf 0 lo).bind fun l => (boundOf len hi).bind fun h =>
      match H[id]? with
      | some (.rows sz ver' rs) => if ver' = ver ∧ sz = sizeT P e ∧ sz ≠ 0 ∧ l ≤ h ∧ off + h ≤ rs.length then some (.own id ver (off + l) (h - l)) else none
      | _ => none
  | some (.slice e), .arr rows =>
    (boundOf 0 lo).bind fun l => (boundOf rows.length hi).bind fun h =>
      if l ≤ h ∧ h ≤ rows.length ∧ sizeT P e ≠ 0 ∧ rows.all (fun r => r.length == sizeT P e) = true then some (.arr ((rows.drop l).take (h - l))) else none
  | _, _ => none

def rowsOfX (H : Heap) : V → Option (List (List V))
  | .lit (.string b) => some (b.data.toList.map fun c => [.lit (.int .u8 c.toNat)])
  | x => rowsOf H x

def appendArgs (P : Program) (ts : Array TypeId) : Option TypeId :=
  match ts[0]?, ts[1]? with
  | some t, some u =>
    match P.underlying t, P.underlying u with
    | some (.slice e), some (.slice _) | some (.slice e), some .string => some e
    | _, _ => none
  | _, _ => none

/-- 'append'. -/
def appendV (P : Program) (nid : Nat) (H : Heap) (ts : Array TypeId) (s x : V) : Option (V × Heap) :=
  (appendArgs P ts).bind fun e => (zeroT P e).bind fun z => (rowsOfX H x).bind fun nr =>
    if sizeT P e ≠ 0 ∧ z.cells.length = sizeT P e ∧ z.cells.all scalarV = true ∧ P.bytesOf e ≤ 1000000 ∧ nr.length ≤ 1000000 ∧ nr.all (fun r => r.length == sizeT P e && r.all scalarV) = true then
      match s with
      | .lit (.slice none 0 0) => if nr.length = 0 then some (s, H) else (place H nid (.rows (sizeT P e) ((2 * e + 2) * TAG) nr)).map (.own nid ((2 * e + 2) * TAG) 0 nr.length, ·)
      | .own id ver off len =>
        match H[id]? with
        | some (.rows sz ver' rs) =>
          if ver' = ver ∧ sz = sizeT P e ∧ off + len ≤ rs.length ∧ len ≤ 1000000 then
            if nr.length = 0 then some (s, H)
            else if off + len + nr.length ≤ rs.length then
              some (.own id ver off (len + nr.length), H.set id (.rows sz ver (rs.take (off + len) ++ nr ++ rs.drop (off + len + nr.length))))
            else if ((ver + 1) / TAG = 0 ∨ (ver / TAG = 2 * e + 2 ∧ (ver + 1) / TAG = 2 * e + 2 ∧ off = 0)) then some (.own id (ver + 1) 0 (len + nr.length), H.set id (.rows sz (ver + 1) ((rs.drop off).take len ++ nr)))
            else none
          else none
        | _ => none
      | _ => none
    else none

def findI (d : TypeDesc) (k : Value) : List (V × V) → Nat → Option (Option (Nat × V))
  | [], _ => some none
  | (k', v) :: es, i => (litOf k').bind fun k' =>
    match Instr.sameNow d k k' with
    | some true => some (some (i, v))
    | some false => findI d k es (i + 1)
    | none => none

def keyDesc (P : Program) (t : TypeId) : Option TypeDesc :=
  match P.underlying t with
  | some .string => some .string
  | some (.int k) => some (.int k)
  | _ => none

def lookupV (P : Program) (H : Heap) (t : TypeId) (m k : V) (ok : Bool) : Option V :=
  match P.underlying t, m with
  | some (.map kt e), .mp id =>
    (keyDesc P kt).bind fun d => (litOf k).bind fun kv =>
    match H[id]? with
    | some (.map es _) =>
      (findI d kv es 0).bind fun r =>
        match r with
        | some (_, v) => some (if ok then .tup [v, .lit (.bool true)] else v)
        | none => (zeroT P e).map fun z => if ok then .tup [z, .lit (.bool false)] else z
    | _ => none
  | _, _ => none

def mapPut (P : Program) (H : Heap) (t : TypeId) (m k v : V) : Option Heap :=
  match P.underlying t, m with
  | some (.map kt _), .mp id =>
    (keyDesc P kt).bind fun d => (litOf k).bind fun kv =>
    match H[id]? with
    | some (.map es c) =>
      (findI d kv es 0).bind fun r =>
        match r with
        | some (i, _) => some (H.set id (.map (es.set i (.lit kv, v)) c))
        | none => some (H.set id (.map (es ++ [(.lit kv, v)]) (c + 1)))
    | _ => none
  | _, _ => none

def fillV (place : Nat → Option (Nat × Nat)) (cells : List V) : List (Nat × V) → Option (List V)
  | [] => some cells
  | (i, v) :: rest =>
    match place i with
    | none => none
    | some (off, size) =>
      if v.cells.length = size ∧ off + size ≤ cells.length ∧ v.cells.all scalarV = true then
        fillV place (cells.take off ++ v.cells ++ cells.drop (off + v.cells.length)) rest
      else none
def placesE (P : Program) (fs : List Field) : Option (List (Nat × Nat)) := fs.mapM fun f => (P.info? f.type).map fun i => (f.offset, i.size)
def buildV (P : Program) (t : TypeId) (ps : List (Nat × V)) : Option V :=
  (zeroT P t).bind fun z =>
  if z.cells.all scalarV = false then none else
  match P.underlying t with
  | some (.struct fs) => (placesE P fs.toList).bind fun pl => (fillV (pl.toArray[·]?) z.cells ps).map .agg
  | some (.array _ e) => (P.info? e).bind fun ie => (fillV (fun i => some (i * ie.size, ie.size)) z.cells ps).map .agg
  | _ => none

/-- The cells of a slice, by rows. -/
def toRows (sz n : Nat) (cs : List V) : List (List V) := (List.range n).map fun i => (cs.drop (i * sz)).take sz

def yieldedV (ops : Array Oper) (tmps : List V) (j : Nat) : Option Bool :=
  match ((ops[j]?).bind (·.dst)).bind (tmps[·]?) with
  | some (.lit (.bool b)) => some b
  | _ => none

def noSel : Op → Bool
  | .select .. | .defer _ | .go _ => false
  | _ => true
def toOps (P : Program) (tmps : List V) (o : Oper) : Option V :=
  -- every operand is a value of the machine's own: the machine's operation itself, if it looks at no memory
  if noSel o.op && o.op.operands.toList.all (fun x => (toValue? (evalO tmps x)).isSome) then
    match pureRun P (execOp (fun x => (toValue? (evalO tmps x)).getD undef) o) with
    | some (.value v) => some (ofValue v)
    | some .skip => some un
    | _ => none
  else none

/-- A value that is no nil, beside nil. -/
def nilCmp (P : Program) (t : TypeId) (x y : V) : Bool :=
  match P.underlying t, x, y with
  | some (.slice _), .own .., .lit (.slice none 0 0) | some (.slice _), .arr (_ :: _), .lit (.slice none 0 0) => true
  | some (.func ..), .fn .., .lit .nilFunc => true
  | some (.pointer _), .ptr .., .lit (.pointer none) | some (.pointer _), .row .., .lit (.pointer none) => true
  | _, _, _ => false

/-- The bytes of rows of one cell each. -/
def bytesOf : List (List V) → Option (List UInt8)
  | [] => some []
  | [.lit (.int .u8 n)] :: l => if 0 ≤ n ∧ n < 256 then (bytesOf l).map (n.toNat.toUInt8 :: ·) else none
  | _ => none
def sliceData (H : Heap) (id ver off len : Nat) : Option V :=
  if len = 0 then none else
  match H[id]? with
  | some (.rows _ ver' rs) => if ver' = ver ∧ off + len ≤ rs.length then some (.ptr id ver off 0) else none
  | _ => none
def strData (P : Program) (H : Heap) (ts : Array TypeId) (id ver : Nat) (n : Int) : Option (V × Heap) :=
  match H[id]?, ts.toList with
  | some (.rows sz ver' rs), [pt, _] =>
    match P.underlying pt with
    | some (.pointer e) => if ver' = ver ∧ sz = 1 ∧ sizeT P e = 1 ∧ ver / TAG = 2 * e + 2 ∧ 0 < n ∧ n.toNat ≤ rs.length ∧ n ≤ 1000000 then
        (bytesOf (rs.take n.toNat)).map fun l => (.lit (.string ⟨l.toArray⟩), H.set id .gone) else none
    | _ => none
  | _, _ => none

def lenSl (P : Program) (ts : Array TypeId) : Bool :=
  match ts[0]? with
  | some t => match P.underlying t with | some (.slice _) => true | _ => false
  | none => false

/-- An operation that calls nothing. -/
def opE (E : Env) (tmps : List V) (nid : Nat) (H : Heap) (o : Oper) : Option (V × Heap) :=
  let ρ := evalO tmps
  let v (x : Option V) : Option (V × Heap) := x.map (·, H)
  let P := E.P
  match o.op with
  | .move x | .assign x => some (ρ x, H)
  | .pick c a b => match ρ c with | .lit (.bool t) => some (if t then ρ a else ρ b, H) | _ => none
  | .alloc t => (zeroT P t).bind fun z => if z.cells.all scalarV = false then none else (place H nid (.rows z.cells.length ((2 * t + 1) * TAG) [z.cells])).map (.ptr nid ((2 * t + 1) * TAG) 0 0, ·)
  | .box _ x => if (ρ x).cells.all scalarV = false then none else (place H nid (.rows (ρ x).cells.length 0 [(ρ x).cells])).map (.ptr nid 0 0 0, ·)
  | .build t ps => v (buildV P t (ps.toList.map fun (i, x) => (i, ρ x)))
  | .buildSlice t n ps =>
    match P.underlying t with
    | some (.slice e) =>
      if n * sizeT P e ≤ 1000000 ∧ sizeT P e ≠ 0 then
        (zeroT P e).bind fun z => if z.cells.length ≠ sizeT P e ∨ z.cells.all scalarV = false then none else (fillV (fun i => some (i * sizeT P e, sizeT P e)) ((List.range (n * sizeT P e)).map fun i => z.cells.getD (i % z.cells.length) un) (ps.toList.map fun (i, x) => (i, ρ x))).bind fun cs =>
          (place H nid (.rows (sizeT P e) 0 (toRows (sizeT P e) n cs))).map (.own nid 0 0 n, ·)
      else none
    | _ => none
  | .load t a => v (loadT E H t (ρ a))
  | .store t a x => (storeT E H t (ρ a) (ρ x)).map (un, ·)
  | .nilCheck x =>
    match ρ x with
    | .ptr a b c d => some (.ptr a b c d, H)
    | .row cs => some (.row cs, H)
    | .fn f cs => some (.fn f cs, H)
    | _ => none
  | .fieldAddr s x f => v (fieldA P s f (ρ x))
  | .field s x f => v (fieldV P s f (ρ x))
  | .indexAddr t x i => v (indexA P H t (ρ x) (ρ i))
  | .extract x i => match ρ x with | .tup vs => v (vs[i]?) | _ => none
  | .makeFunc (.func f) first caps => if first.isEmpty then some (.fn f (caps.toList.map ρ), H) else none
  | .makeMap _ none => (place H nid (.map [] 0)).map (.mp nid, ·)
  | .makeSlice t l c =>
    match P.underlying t, intOf (ρ l), intOf (ρ c) with
    | some (.slice e), some n, some m => if 0 ≤ n ∧ n = m ∧ n ≤ 1000000 ∧ sizeT P e ≠ 0 ∧ P.bytesOf e ≤ 1000000 then
        (zeroT P e).bind fun z => if z.cells.length ≠ sizeT P e ∨ z.cells.all scalarV = false then none else (place H nid (.rows (sizeT P e) 0 (List.replicate n.toNat z.cells))).map (.own nid 0 0 n.toNat, ·) else none
    | _, _, _ => none
  | .lookup t m k ok => v (lookupV P H t (ρ m) (ρ k) ok)
  | .mapUpdate t m k x | .insert t m k x => (mapPut P H t (ρ m) (ρ k) (ρ x)).map (un, ·)
  | .range t x => match P.underlying t, ρ x with
    | some .string, .lit (.string s) => (place H nid (.iter s 0)).map (.it nid, ·)
    | _, _ => none
  | .next x true => match ρ x with
    | .it id => match H[id]? with
      | some (.iter s pos) =>
        if pos < s.size then
          let d := Utf8.decode s pos
          some (.tup [.lit (.bool true), .lit (goInt pos), .lit (.int .i32 d.1)], H.set id (.iter s (pos + d.2)))
        else some (.tup [.lit (.bool false)], H)
      | _ => none
    | _ => none
  | .slice t x lo hi none =>
    match ρ x with
    | .lit _ => v (toOps P tmps o)
    | y => v (sliceV P H t y (lo.map ρ) (hi.map ρ))
  | .binOp op t x y _ =>
    if nilCmp P t (ρ x) (ρ y) then
      match op with
      | .eql => some (.lit (.bool false), H)
      | .neq => some (.lit (.bool true), H)
      | _ => none
    else v (toOps P tmps o)
  | .call { callee := .builtin b, args, argTypes } =>
    match b, args.toList.map ρ with
    | .append, [s, x] => appendV P nid H argTypes s x
    | .len, [.own _ _ _ n] => if lenSl P argTypes then some (.lit (goInt n), H) else none
    | .len, [.arr rows] => if lenSl P argTypes then some (.lit (goInt rows.length), H) else none
    | .unsafeSliceData, [.own id ver off len] => v (sliceData H id ver off len)
    | .unsafeString, [.ptr id ver 0 0, .lit (.int .i64 n)] => strData P H argTypes id ver n
    | _, _ => v (toOps P tmps o)
  | _ => v (toOps P tmps o)

/-! Calls on memory of their own. -/
def flatR (rows : List (List V)) : Bool := rows.all fun r => r.all V.isLit
mutual
/-- The value as it is seen by somebody who never writes. -/
def freeze (H : Heap) : Nat → V → Option V
  | 0, _ => none
  | k + 1, v => match v with
    | .lit v => some (.lit v)
    | .arr rows => some (.arr rows)
    | .row cs => some (.row cs)
    | .agg cs => (freezes H k cs).map .agg
    | .tup cs => (freezes H k cs).map .tup
    | .fn f cs => (freezes H k cs).map (.fn f)
    | .own id ver off len => (rowsOf H (.own id ver off len)).bind fun rs => if flatR rs then some (.arr rs) else (freezess H k rs).map .arr
    | .ptr id ver r off =>
      match H[id]? with
      | some (.rows _ ver' rs) => if ver' = ver then (rs[r]?).bind fun cs => if off ≤ cs.length then (freezes H k (cs.drop off)).map .row else none else none
      | _ => none
    | _ => none
def freezes (H : Heap) : Nat → List V → Option (List V)
  | 0, _ => none
  | _ + 1, [] => some []
  | k + 1, v :: vs => (freeze H k v).bind fun x => (freezes H k vs).map (x :: ·)
def freezess (H : Heap) : Nat → List (List V) → Option (List (List V))
  | 0, _ => none
  | _ + 1, [] => some []
  | k + 1, v :: vs => (freezes H k v).bind fun x => (freezess H k vs).map (x :: ·)
end

/-- The cells at a value's top. -/
def tops : V → List V
  | .tup vs => vs.flatMap V.cells
  | v => v.cells
def ownId : V → Option Nat
  | .own id _ _ _ => some id
  | _ => none
def noOwnC : V → Bool
  | .lit _ | .arr _ | .row _ => true
  | .fn _ cs => cs.all fun | .lit _ | .arr _ | .row _ => true | _ => false
  | _ => false
def noOwn (v : V) : Bool := (tops v).all noOwnC
def noShareC : V → Bool
  | .lit _ | .own .. => true
  | _ => false

def nodup : List Nat → Bool
  | [] => true
  | a :: l => !(l.contains a) && nodup l

def shiftC (n : Nat) : V → V
  | .own id ver off len => .own (n + id) ver off len
  | v => v
def shiftA (n : Nat) : V → V
  | .agg cs => .agg (cs.map (shiftC n))
  | v => shiftC n v
/-- A value of a small memory, that memory laid at n. -/
def shift (n : Nat) : V → V
  | .tup vs => .tup (vs.map (shiftA n))
  | v => shiftA n v

def flatOwn (H : Heap) (c : V) : Bool :=
  match c with
  | .own .. => match rowsOf H c with | some rs => flatR rs | none => false
  | _ => false
def trC (H : Heap) (c : V) (K : Heap) : Option (V × Heap) :=
  match c with
  | .own id _ _ len =>
    (rowsOf H c).bind fun rs =>
      match H[id]? with
      | some (.rows sz _ _) => some (.own K.length 0 0 len, K ++ [.rows sz 0 rs])
      | _ => none
  | c => some (c, K)
def trCs (H : Heap) : List V → Heap → Option (List V × Heap)
  | [], K => some ([], K)
  | v :: vs, K => (trC H v K).bind fun x => (trCs H vs x.2).map fun y => (x.1 :: y.1, y.2)
def trA (H : Heap) (v : V) (K : Heap) : Option (V × Heap) :=
  match v with
  | .agg cs => (trCs H cs K).map fun y => (.agg y.1, y.2)
  | v => trC H v K
def trAs (H : Heap) : List V → Heap → Option (List V × Heap)
  | [], K => some ([], K)
  | v :: vs, K => (trA H v K).bind fun x => (trAs H vs x.2).map fun y => (x.1 :: y.1, y.2)
def tr (H : Heap) (v : V) : Option (V × Heap) :=
  match v with
  | .tup vs => (trAs H vs []).map fun y => (.tup y.1, y.2)
  | v => trA H v []

/-- A call that works on memory of its own: what it hands back: slices of its own, flat and apart, or a value that nobody writes. -/
def pcall (self : Self) (f : FuncId) (args : List V) : Option (V × Heap) :=
  (self.call f args []).bind fun (v, H') =>
    if (tops v).all (fun c => noOwnC c || flatOwn H' c) && nodup ((tops v).filterMap ownId) then tr H' v else (freeze H' 1000 v).map (·, [])

def freezeAll (H : Heap) : List V → Option (List V)
  | [] => some []
  | v :: vs => (freeze H 1000 v).bind fun x => (freezeAll H vs).map (x :: ·)

def bodyless (P : Program) (f : FuncId) : Bool :=
  match P.funcs[f]? with
  | some fn => fn.body.isNone
  | none => false
def goodFn (P : Program) (f : FuncId) : Bool :=
  match P.funcs[f]? with
  | some fn => !(fn.name == "runtime.NumGoroutine")
  | none => false
def valuesOf : List V → Option (List Value)
  | [] => some []
  | v :: vs => (toValue? v).bind fun x => (valuesOf vs).map (x :: ·)

def callE (E : Env) (self : Self) (f : FuncId) (args : List V) (nid : Nat) (H : Heap) : Option (V × Heap) :=
  if goodFn E.P f = false then none else
  match E.prim f with
  | some p => if bodyless E.P f then none else p args H
  | none =>
    if bodyless E.P f then
      (valuesOf args).bind fun xs =>
        match pureRun E.P (callFunc f xs.toArray) with
        | some (.value v) => some (ofValue v, H)
        | _ => none
    else if E.heapFn f then self.call f args H
    else (if args.all noOwn then some args else freezeAll H args).bind fun args' => (pcall self f args').bind fun r =>
      if (args.all noOwn || (tops r.1).all noShareC) && decide (r.2.length ≤ 2) then (placeAll H nid r.2).map (shift nid r.1, ·) else none

def setAll (tmps : List V) : List Tmp → List V → List V
  | p :: ps, v :: vs => setAll (tmps.set p v) ps vs
  | _, _ => tmps

def loopAt (H : Heap) (l : Nat) (old ready : Bool) (pend : Option Code) : Option Heap :=
  match H[l]? with
  | some (.loop r none tmps ps a b) => if r = old then some (H.set l (.loop ready pend tmps ps a b)) else none
  | _ => none

def yieldE (self : Self) (l : Nat) (args : List V) (H : Heap) : Option (V × Heap) :=
  match H[l]? with
  | some (.loop true none tmps ps assign body) =>
    if args.length = ps.length then
      (self.code (some l) assign ⟨setAll tmps ps args, H, []⟩).bind fun
        | (.normal, s) =>
          if s.ds.isEmpty = false then none else
          (loopAt s.H l true false none).bind fun H1 =>
            (self.code (some l) body ⟨s.tmps, H1, []⟩).bind fun
              | (.normal, s2) => (loopAt s2.H l false true none).map (.lit (.bool true), ·)
              | (.ret, s2) => (loopAt s2.H l false false (some .ret)).map (.lit (.bool false), ·)
              | (.exit id, s2) => (loopAt s2.H l false false (some (.exit id))).map (.lit (.bool false), ·)
              | (.pan _, _) => none
        | _ => none
    else none
  | _ => none

def stepE (E : Env) (self : Self) (tmps : List V) (nid : Nat) (H : Heap) (o : Oper) : Option (V × Heap) :=
  match o.op with
  | .call { callee := .value g, args, .. } =>
    match evalO tmps g with
    | .fn f caps => callE E self f (args.toList.map (evalO tmps) ++ caps) nid H
    | .yld l => yieldE self l (args.toList.map (evalO tmps)) H
    | _ => none
  | _ => opE E tmps nid H o

/-- A call of a function that can panic. -/
def panCall (E : Env) (tmps : List V) (o : Oper) : Option (FuncId × List V) :=
  match o.op with
  | .call { callee := .value g, args, .. } =>
    match evalO tmps g with
    | .fn f caps => if E.mayPan f && E.heapFn f && goodFn E.P f && !bodyless E.P f && (E.prim f).isNone then some (f, args.toList.map (evalO tmps) ++ caps) else none
    | _ => none
  | _ => none
/-- A deferred call. -/
def deferE (tmps : List V) (o : Oper) : Option Dr :=
  match o.op with
  | .defer { callee := .value g, args, .. } =>
    match evalO tmps g with
    | .fn f caps => some (.fn f (args.toList.map (evalO tmps) ++ caps))
    | _ => none
  | _ => none
def isDefer : Op → Bool
  | .defer _ => true
  | _ => false
def panicV (tmps : List V) : Op → Option Value
  | .panic x => match evalO tmps x with
    | .lit (.iface t v) => some (.iface t v)
    | _ => none
  | _ => none

def regionE (E : Env) (self : Self) (ro : Option Nat) (ops : Array Oper) : List Oper → St → Option (X × St)
  | [], s => some (.normal, s)
  | o :: os, s =>
    if Region.wanted o (yieldedV ops s.tmps) then
      if isDefer o.op then
        if ro.isSome then none else (deferE s.tmps o).bind fun d => regionE E self ro ops os ⟨put s.tmps o.dst un, s.H, d :: s.ds⟩
      else match panicV s.tmps o.op with
        | some x => some (.pan x, s)
        | none => match panCall E s.tmps o with
          | some (f, args) => (self.callX f args s.H).bind fun
            | (.ret v, H) => regionE E self ro ops os ⟨put s.tmps o.dst v, H, s.ds⟩
            | (.pan x, H) => some (.pan x, ⟨s.tmps, H, s.ds⟩)
          | none => (stepE E self s.tmps s.H.length s.H o).bind fun (v, H) => regionE E self ro ops os ⟨put s.tmps o.dst v, H, s.ds⟩
    else regionE E self ro ops os ⟨put s.tmps o.dst un, s.H, s.ds⟩

/-! Regions that draw their order: the order of the text, each operation on a view in which what may come before or behind it is hidden. -/
inductive DK where
  | pure | read | new | call | store | app | other
  deriving DecidableEq

def kindD (E : Env) (chk : Bool) (o : Oper) : DK :=
  match o.op with
  | .move _ | .assign _ | .pick .. | .binOp .. | .unOp .. | .extract .. | .field .. | .build .. | .index .. | .fieldAddr .. | .nilCheck _ | .makeInterface .. | .makeFunc .. | .convert .. => .pure
  | .load .. | .lookup .. | .indexAddr .. | .slice _ _ _ _ none | .call { callee := .builtin .unsafeSliceData, .. } => .read
  | .alloc _ | .box .. | .buildSlice .. | .makeSlice .. | .makeMap _ none => .new
  | .store .. => if chk then .store else .other
  | .call { callee := .builtin .append, .. } => if chk then .app else .other
  | .call { callee := .builtin .len, .. } | .call { callee := .builtin .cap, .. } | .call { callee := .builtin .min, .. } | .call { callee := .builtin .max, .. } => .pure
  | .call { callee := .value (.func f), .. } => if E.heapFn f = false ∧ (E.prim f).isNone then .call else .other
  | _ => .other

def dirs (o : Oper) : List Nat := (o.after.toList.filter (Region.binds .any)).map (·.on)
/-- Of each operation, as a number's bits: those that it waits for. -/
def ancM (acc : List Nat) (l : List Nat) : Nat := l.foldl (fun s e => s ||| 2 ^ e ||| acc.getD e 0) 0
def ancL (acc : List Nat) : List Oper → List Nat
  | [] => acc
  | o :: os => ancL (acc ++ [ancM acc (dirs o)]) os
def ancS (ops : List Oper) : List Nat := ancL [] ops
def waits (ops : List Oper) (j i : Nat) : Bool := ((ancS ops).getD j 0).testBit i
def unordered (ops : List Oper) (i j : Nat) : Bool := i != j && !waits ops i j && !waits ops j i

/-- An operation that lays no block. -/
def dry (E : Env) (o : Oper) : Bool :=
  match kindD E true o with
  | .new | .app => false
  | .call => match E.P.underlying o.type with
    | some (.int _) | some .bool | some .string => true
    | _ => false
  | .other => false
  | _ => true
def slotsN (E : Env) : List Oper → Nat
  | [] => 0
  | o :: os => (if dry E o then 0 else 2) + slotsN E os
/-- Places for new blocks, counted from where the region begins. -/
def offL (E : Env) (no base : Nat) : List Oper → List Nat
  | [] => []
  | o :: os => if dry E o then no :: offL E no base os else base :: offL E no (base + 2) os
def offS (E : Env) (ops : List Oper) : List Nat := offL E (slotsN E ops + 1000000) 0 ops
def makes (E : Env) (o : Oper) : Bool :=
  match kindD E true o with
  | .new | .app | .call => !dry E o
  | _ => false

def hidN (E : Env) (ops : List Oper) (i : Nat) : List Nat := (List.range ops.length).flatMap fun j =>
  match (ops[j]?).map (makes E) with
  | some true => if unordered ops i j then [(offS E ops).getD j 0, (offS E ops).getD j 0 + 1] else []
  | _ => []
def hidS (E : Env) (chk : Bool) (ops : List Oper) (i : Nat) : List Nat := (List.range ops.length).filter fun j =>
  (match (ops[j]?).map (kindD E chk) with | some .store | some .app => true | _ => false) && unordered ops i j

/-- What is known of an operation in a region: its place, what it must not look at. -/
structure DItem where
  i : Nat
  o : Oper
  off : Nat
  dry : Bool
  hn : List Nat
  hs : List Nat

def itemS (E : Env) (chk : Bool) (ops : List Oper) (i : Nat) (o : Oper) : DItem := ⟨i, o, (offS E ops).getD i 0, dry E o, hidN E ops i, hidS E chk ops i⟩
def itemsL (E : Env) (chk : Bool) (ops : List Oper) : Nat → List Oper → List DItem
  | _, [] => []
  | i, o :: os => itemS E chk ops i o :: itemsL E chk ops (i + 1) os

def maskH (H : Heap) : List Nat → Heap
  | [] => H
  | p :: ps => maskH (H.set p .free) ps
def unmaskH (H H' : Heap) : List Nat → Heap
  | [] => H'
  | p :: ps => match H[p]? with
    | some b => (unmaskH H H' ps).set p b
    | none => unmaskH H H' ps

def storeAt (tmps : List V) (o : Oper) (sid : Nat) : Bool :=
  match o.op with
  | .store _ a _ => match evalO tmps a with | .ptr id _ _ _ => id == sid | _ => false
  | .call { callee := .builtin .append, args, .. } => match args.toList.map (evalO tmps) with | .own id _ _ _ :: _ => id == sid | _ => true
  | _ => true

/-- A run of a region: whether stores are bound to blocks; where the new places begin, how many they are; the blocks of the stores. -/
structure DRun where
  chk : Bool
  base : Nat
  room : Nat
  sid : List Nat

def hidI (r : DRun) (it : DItem) : List Nat := it.hn.map (r.base + ·) ++ it.hs.map (r.sid.getD · 0)
def posI (r : DRun) (it : DItem) (n : Nat) : Nat := if it.dry then n + 1 else r.base + it.off
def okI (r : DRun) (it : DItem) (tmps : List V) (n : Nat) : Bool :=
  (!r.chk || storeAt tmps it.o (r.sid.getD it.i 0)) && (it.dry || (decide (r.base + r.room ≤ n) && !(hidI r it).contains (r.base + it.off) && !(hidI r it).contains (r.base + it.off + 1)))

def stepI (E : Env) (self : Self) (ops : Array Oper) (r : DRun) (it : DItem) (s : St) : Option St :=
  if Region.wanted it.o (yieldedV ops s.tmps) then
    if okI r it s.tmps s.H.length then
      (stepE E self s.tmps (posI r it s.H.length) (maskH s.H (hidI r it)) it.o).bind fun (v, H) =>
        if it.dry || decide (r.base + r.room ≤ H.length) then some ⟨put s.tmps it.o.dst v, unmaskH s.H H (hidI r it), s.ds⟩ else none
    else none
  else some ⟨put s.tmps it.o.dst un, s.H, s.ds⟩

def runI (E : Env) (self : Self) (ops : Array Oper) (r : DRun) : List DItem → St → Option St
  | [], s => some s
  | it :: is, s => (stepI E self ops r it s).bind fun s' => runI E self ops r is s'

/-- Two operations of which neither waits for the other: may they stand in whatever order? -/
def freeD (E : Env) (chk : Bool) (ops : Array Oper) (x y : Oper) : Bool :=
  x.apart ops y && (match kindD E chk x, kindD E chk y with
    | .other, .pure | .other, .new | .pure, .other | .new, .other => true
    | .other, _ | _, .other => false
    | _, _ => true)
def okPair (E : Env) (chk : Bool) (ops : Array Oper) (i j : Nat) : Bool :=
  match ops[i]?, ops[j]? with
  | some x, some y => freeD E chk ops x y
  | _, _ => false
def okD (E : Env) (chk : Bool) (ops : Array Oper) : Bool :=
  (List.range ops.size).all fun j => decide ((ancS ops.toList).getD j 0 < 2 ^ j) && (List.range j).all fun i => waits ops.toList j i || okPair E chk ops i j

def sidOf (tmps : List V) (o : Oper) : Nat :=
  match o.op with
  | .store _ a _ => match evalO tmps a with | .ptr id _ _ _ => id | _ => 0
  | .call { callee := .builtin .append, args, .. } => match args.toList.map (evalO tmps) with | .own id _ _ _ :: _ => id | _ => TAG
  | _ => 0
def needSid (E : Env) (ops : List Oper) : Bool :=
  (List.range ops.length).any fun i => ((ops[i]?).map (kindD E true) == some .store || (ops[i]?).map (kindD E true) == some .app) && (List.range ops.length).any fun j => unordered ops i j && ((ops[j]?).map (kindD E true) == some .read || (ops[j]?).map (kindD E true) == some .call || (ops[j]?).map (kindD E true) == some .store || (ops[j]?).map (kindD E true) == some .app)

/-- What of a region is known ahead of its run. -/
def planS (E : Env) (chk : Bool) (ops : Array Oper) : Option (List DItem) :=
  if okD E chk ops then some (itemsL E chk ops.toList 0 ops.toList) else none

/-- The places of the stores: read off a first run. -/
def runP (E : Env) (self : Self) (ops : Array Oper) (r : DRun) : List DItem → St → Option St
  | [], s => some s
  | it :: is, s =>
    if Region.wanted it.o (yieldedV ops s.tmps) then
      (stepE E self s.tmps (posI r it s.H.length) s.H it.o).bind fun (v, H) => runP E self ops r is ⟨put s.tmps it.o.dst v, H, s.ds⟩
    else runP E self ops r is ⟨put s.tmps it.o.dst un, s.H, s.ds⟩

/-- Free places at the end are taken off. -/
def dropF : Heap → Heap
  | [] => []
  | b :: bs => match dropF bs, b with
    | [], .free => []
    | r, b => b :: r
def trimH : Nat → Heap → Heap
  | 0, H => dropF H
  | _ + 1, [] => []
  | n + 1, b :: H => b :: trimH n H

def padded (E : Env) (ops : Array Oper) (s : St) : St := ⟨s.tmps, s.H ++ List.replicate (slotsN E ops.toList) .free, s.ds⟩
def regionD (E : Env) (self : Self) (ops : Array Oper) (s : St) : Option St :=
  if E.P.follows .mixedOrders = false then none else
  (if needSid E ops.toList then
    (planS E true ops).bind fun its => (runP E self ops ⟨true, s.H.length, slotsN E ops.toList, []⟩ its (padded E ops s)).bind fun s1 =>
      runI E self ops ⟨true, s.H.length, slotsN E ops.toList, ops.toList.map (sidOf s1.tmps)⟩ its (padded E ops s)
  else
    (planS E false ops).bind fun its => runI E self ops ⟨false, s.H.length, slotsN E ops.toList, []⟩ its (padded E ops s)).map fun r => ⟨r.tmps, trimH s.H.length r.H, r.ds⟩

def loopEnd (H : Heap) (l : Nat) : Option (X × Heap) :=
  match H[l]? with
  | some (.loop true none _ _ _ _) => some (.normal, H.set l .gone)
  | some (.loop _ (some .ret) _ _ _ _) => some (.ret, H.set l .gone)
  | some (.loop _ (some (.exit id)) _ _ _ _) => some (.exit id, H.set l .gone)
  | _ => none

/-- Where a loop over a function begins: the records that are laid; the marks. -/
def loopBegin (ro : Option Nat) (H : Heap) (ds : List Dr) (L : Blk) : Option (Nat × Heap × List Dr) :=
  match ro with
  | none => some (H.length + 1, H ++ [.dfr, L], .mark H.length :: ds)
  | some r => match H[r]? with
    | some (.loop ..) => some (H.length, H ++ [L], ds)
    | _ => none

def codeE (E : Env) (self : Self) (ro : Option Nat) : Code → St → Option (X × St)
  | .skip, s => some (.normal, s)
  | .region _ ops draw, s => if draw then (regionD E self ops s).map (.normal, ·) else regionE E self ro ops ops.toList s
  | .seq a b, s => (codeE E self ro a s).bind fun
    | (.normal, s') => codeE E self ro b s'
    | r => some r
  | .cond c a b, s =>
    match evalO s.tmps c with
    | .lit (.bool t) => if t then codeE E self ro a s else codeE E self ro b s
    | _ => none
  | .block id b, s => (codeE E self ro b s).bind fun
    | (.exit i, s') => if i = id then some (.normal, s') else some (.exit i, s')
    | r => some r
  | .loop b, s => (codeE E self ro b s).bind fun
    | (.normal, s') => self.code ro (.loop b) s'
    | r => some r
  | .exit id, s => some (.exit id, s)
  | .ret, s => some (.ret, s)
  | .rangeFunc g ps assign body, s =>
    match evalO s.tmps g with
    | .fn f caps =>
      if goodFn E.P f = false ∨ bodyless E.P f = true then none else
      (loopBegin ro s.H s.ds (.loop true none s.tmps ps.toList assign body)).bind fun (l, H0, ds) =>
        (self.call f (.yld l :: caps) H0).bind fun (_, H) => (loopEnd H l).map fun (x, H') => (x, ⟨s.tmps, H', ds⟩)
    | _ => none
  | _, _ => none

def resE (E : Env) (tmps : List V) (H : Heap) : List ResultVar → Option (List V)
  | [] => some []
  | .tmp t :: l => (resE E tmps H l).map (tmps.getD t un :: ·)
  | .cell a t :: l => (loadT E H t (tmps.getD a un)).bind fun v => (resE E tmps H l).map (v :: ·)

/-! A function is left: the marks are taken up, the deferred calls made. -/
inductive Md where
  | ret
  | pan (x : Value)
  | done (x : Value)
def Md.settle : Md → Md
  | .done _ => .ret
  | m => m
def isRec : Op → Bool
  | .call { callee := .builtin .recover, .. } => true
  | _ => false
def regionR (E : Env) (ops : Array Oper) : List Oper → Md → St → Option (Md × St)
  | [], m, s => some (m, s)
  | o :: os, m, s =>
    if Region.wanted o (yieldedV ops s.tmps) then
      if isRec o.op then
        match m with
        | .pan x => regionR E ops os (.done x) ⟨put s.tmps o.dst (.lit x), s.H, s.ds⟩
        | m => regionR E ops os m ⟨put s.tmps o.dst (.lit .nilIface), s.H, s.ds⟩
      else (opE E s.tmps s.H.length s.H o).bind fun (v, H) => regionR E ops os m ⟨put s.tmps o.dst v, H, s.ds⟩
    else regionR E ops os m ⟨put s.tmps o.dst un, s.H, s.ds⟩
/-- The code of a deferred function. -/
def codeR (E : Env) (self : Self) : Code → Md → St → Option (X × Md × St)
  | .seq a b, m, s => (codeR E self a m s).bind fun
    | (.normal, m', s') => codeR E self b m' s'
    | r => some r
  | .region id ops draw, m, s =>
    if ops.toList.any (fun o => isRec o.op) then
      if draw then none else (regionR E ops ops.toList m s).map fun (m', s') => (.normal, m', s')
    else (codeE E self none (.region id ops draw) s).map fun (x, s') => (x, m, s')
  | c, m, s => (codeE E self none c s).map fun (x, s') => (x, m, s')
def bodyR (E : Env) (self : Self) (f : FuncId) (args : List V) (m : Md) (H : Heap) : Option (Md × Heap) :=
  (E.P.funcs[f]?).bind fun fn => fn.body.bind fun c =>
    if fn.results.size ≠ 0 then none else
    (codeR E self c m ⟨args ++ List.replicate (fn.ntmps - args.length) un, H, []⟩).bind fun
      | (.normal, m', s) | (.ret, m', s) => if s.ds.isEmpty then some (m', s.H) else none
      | _ => none
def leaveE (E : Env) (self : Self) : Md → Heap → List Dr → Option (Md × Heap)
  | m, H, [] => some (m, H)
  | m, H, .mark d :: ds => match H[d]? with
    | some .dfr => leaveE E self m (H.set d .gone) ds
    | _ => none
  | m, H, .fn f args :: ds =>
    if goodFn E.P f = false ∨ bodyless E.P f = true then none else
    (bodyR E self f args m H).bind fun r => leaveE E self r.1.settle r.2 ds

def tupV : List V → V
  | [v] => v
  | vs => .tup vs
def finE (E : Env) (fn : Func) (s : St) : Md × Heap → Option (Oc × Heap)
  | (.ret, H) => (resE E s.tmps H fn.results.toList).map fun vs => (.ret (tupV vs), H)
  | (.pan x, H) => some (.pan x, H)
  | (.done _, _) => none
def mdOf : X → Option Md
  | .normal | .ret => some .ret
  | .pan x => some (.pan x)
  | .exit _ => none
def bodyE (E : Env) (self : Self) (f : FuncId) (args : List V) (H : Heap) : Option (Oc × Heap) :=
  (E.P.funcs[f]?).bind fun fn => fn.body.bind fun c =>
    (codeE E self none c ⟨args ++ List.replicate (fn.ntmps - args.length) un, H, []⟩).bind fun r =>
      (mdOf r.1).bind fun m => (leaveE E self m r.2.H r.2.ds).bind (finE E fn r.2)

def run (E : Env) : Nat → Self
  | 0 => ⟨fun _ _ _ => none, fun _ _ _ => none⟩
  | k + 1 => ⟨bodyE E (run E k), codeE E (run E k)⟩
end Go.Proofs.YtpmdlaojndejfaaGreatDoor.E

/- The evaluator's values and memory against the machine's: the relation, and what keeps it. -/
namespace Go.Proofs.YtpmdlaojndejfaaGreatDoor.E
open Go

/-- Where a block of the evaluator's lies: the machine's block, the first cell, how many cells the machine's block has. -/
structure Lk where
  b : Nat
  o : Nat
  n : Nat

inductive VR (A : Nat → Prop) (ι : Nat → Lk) : Heap → World → V → Value → Prop
  | lit {H : Heap} {w : World} (v : Value) : VR A ι H w (.lit v) v
  | arr {H : Heap} {w : World} (rows : List (List V)) (b o cap sz : Nat) (hA : A b) (hcap : rows.length ≤ cap) (hsz : ∀ (i : Nat) (r : List V), rows[i]? = some r → r.length = sz)
      (hc : ∀ (i j : Nat) (r : List V) (c : V), rows[i]? = some r → r[j]? = some c → ∃ cv, w.cell? ⟨b, o + i * sz + j, none⟩ = some cv)
      (hv : ∀ (i j : Nat) (r : List V) (c : V) (cv : Value), rows[i]? = some r → r[j]? = some c → w.cell? ⟨b, o + i * sz + j, none⟩ = some cv → VR A ι [] w c cv) :
      VR A ι H w (.arr rows) (.slice (some ⟨b, o, none⟩) rows.length cap)
  | nilA {H : Heap} {w : World} (p : Option Addr) : VR A ι H w (.arr []) (.slice p 0 0)
  | row {H : Heap} {w : World} (cells : List V) (b o : Nat) (hA : A b)
      (hc : ∀ (j : Nat) (c : V), cells[j]? = some c → ∃ cv, w.cell? ⟨b, o + j, none⟩ = some cv)
      (hv : ∀ (j : Nat) (c : V) (cv : Value), cells[j]? = some c → w.cell? ⟨b, o + j, none⟩ = some cv → VR A ι [] w c cv) :
      VR A ι H w (.row cells) (.pointer (some ⟨b, o, none⟩))
  | agg {H : Heap} {w : World} (cs : List V) (vs : Array Value) (hl : cs.length = vs.size) (hv : ∀ (i : Nat) (c : V) (cv : Value), cs[i]? = some c → vs[i]? = some cv → VR A ι H w c cv) :
      VR A ι H w (.agg cs) (.agg vs)
  | tup {H : Heap} {w : World} (cs : List V) (vs : Array Value) (hl : cs.length = vs.size) (hv : ∀ (i : Nat) (c : V) (cv : Value), cs[i]? = some c → vs[i]? = some cv → VR A ι H w c cv) :
      VR A ι H w (.tup cs) (.tuple vs)
  | own {H : Heap} {w : World} (id ver off len : Nat) (a : Addr) (cap : Nat) (blk : Blk) (hid : H[id]? = some blk) (hf : blk ≠ .free)
      (h : ∀ sz ver' rs, blk = .rows sz ver' rs → ver < ver' ∨ (ver = ver' ∧ off + len ≤ rs.length ∧ rs.length ≤ off + cap ∧
        (ι id).o + (off + cap) * sz ≤ (ι id).n ∧ (cap = 0 ∨ a = ⟨(ι id).b, (ι id).o + off * sz, none⟩) ∧ a.block = (ι id).b ∧ a.spot = none)) :
      VR A ι H w (.own id ver off len) (.slice (some a) len cap)
  | ptr {H : Heap} {w : World} (id ver r off : Nat) (a : Addr) (blk : Blk) (hid : H[id]? = some blk) (hf : blk ≠ .free)
      (h : ∀ sz ver' rs, blk = .rows sz ver' rs → ver < ver' ∨ (ver = ver' ∧ a = ⟨(ι id).b, (ι id).o + r * sz + off, none⟩)) :
      VR A ι H w (.ptr id ver r off) (.pointer (some a))
  | fn {H : Heap} {w : World} (f : FuncId) (cs : List V) (vs : Array Value) (hl : cs.length = vs.size) (hv : ∀ (i : Nat) (c : V) (cv : Value), cs[i]? = some c → vs[i]? = some cv → VR A ι H w c cv) :
      VR A ι H w (.fn f cs) (.func (.func f) #[] vs)
  | yld {H : Heap} {w : World} (id : Nat) (blk : Blk) (hid : H[id]? = some blk) (hf : blk ≠ .free) (hr : ∀ sz ver rs, blk ≠ .rows sz ver rs) :
      VR A ι H w (.yld id) (.func (.yield (ι id).b) #[] #[])
  | mp {H : Heap} {w : World} (id : Nat) (blk : Blk) (hid : H[id]? = some blk) (hf : blk ≠ .free) (hr : ∀ sz ver rs, blk ≠ .rows sz ver rs) :
      VR A ι H w (.mp id) (.map (some (ι id).b))
  | it {H : Heap} {w : World} (id : Nat) (blk : Blk) (hid : H[id]? = some blk) (hf : blk ≠ .free) (hr : ∀ sz ver rs, blk ≠ .rows sz ver rs) :
      VR A ι H w (.it id) (.pointer (some ⟨(ι id).b, 0, none⟩))

def Blk.alive : Blk → Prop
  | .free | .gone => False
  | _ => True

/-- What a version tells of the machine's block. -/
def TagOk (ver : Nat) (e : TypeId) (L : Lk) (k : Nat) : Prop := (∀ t : Nat, ver / TAG = 2 * t + 1 → @Eq Nat e t ∧ L.o = 0 ∧ L.n = k) ∧ ∀ t : Nat, ver / TAG = 2 * t + 2 → @Eq Nat e t ∧ L.o = 0
theorem TagOk.zero {ver : Nat} {e : TypeId} {L : Lk} {k : Nat} (h : ver / TAG = 0) : TagOk ver e L k := ⟨fun t ht => by omega, fun t ht => by omega⟩

def BR (A : Nat → Prop) (ι : Nat → Lk) (H : Heap) (w : World) (id : Nat) : Blk → Prop
  | .free | .gone => True
  | .rows sz ver rs => ∃ cs e, w.heap[(ι id).b]? = some (.cells cs e (0, 0)) ∧ cs.size = (ι id).n ∧ (∀ (i : Nat) (r : List V), rs[i]? = some r → r.length = sz) ∧
      (ι id).o + rs.length * sz ≤ cs.size ∧ (∀ (i j : Nat) (r : List V) (c : V), rs[i]? = some r → r[j]? = some c → (∃ cv, cs[(ι id).o + i * sz + j]? = some cv ∧ VR A ι H w c cv)) ∧ TagOk ver e (ι id) (rs.length * sz)
  | .map es clock => ∃ es', w.heap[(ι id).b]? = some (.map es' clock) ∧ es'.size = es.length ∧
      ∀ (i : Nat) (k v : V), es[i]? = some (k, v) → ∃ e, es'[i]? = some e ∧ VR A ι H w k e.key ∧ VR A ι H w v e.val
  | .iter s pos => w.heap[(ι id).b]? = some (.stringIter s pos)
  | .dfr => w.heap[(ι id).b]? = some (.deferred (some []))
  | .loop ready pend tmps ps asg body => ∃ L : Loop, w.heap[(ι id).b]? = some (.loop L) ∧
      L.state = (if ready then .ready else match pend with | none => .busy | some _ => .done) ∧ L.pending = pend ∧ L.params = ps.toArray ∧ L.assign = asg ∧ L.body = body ∧
      L.tmps.size = tmps.length ∧ ∀ (i : Nat) (x : V) (cv : Value), tmps[i]? = some x → L.tmps[i]? = some cv → VR A ι H w x cv

structure SR (N A : Nat → Prop) (ι : Nat → Lk) (H : Heap) (w : World) : Prop where
  live : ∀ (id : Nat) (blk : Blk), H[id]? = some blk → BR A ι H w id blk
  inj : ∀ (i j : Nat) (bi bj : Blk), H[i]? = some bi → H[j]? = some bj → bi.alive → bj.alive → (ι i).b = (ι j).b → i = j
  apart : ∀ (i : Nat) (bi : Blk), H[i]? = some bi → bi.alive → ¬ N (ι i).b
  an : ∀ b, A b → N b
  lt : ∀ b, N b → b < w.heap.size

/-- What has become of a block. -/
def Later (ι ι' : Nat → Lk) (id : Nat) : Blk → Blk → Prop
  | .rows sz ver rs, .rows sz' ver' rs' => ver < ver' ∨ (ver = ver' ∧ sz = sz' ∧ rs.length = rs'.length ∧ ι' id = ι id)
  | .rows _ _ _, b => b = .gone
  | .free, _ => True
  | _, b => (∀ sz ver rs, b ≠ .rows sz ver rs) ∧ b ≠ .free ∧ ι' id = ι id

structure Keeps (A A' : Nat → Prop) (ι ι' : Nat → Lk) (H H' : Heap) (w w' : World) : Prop where
  aa : ∀ b, A b → A' b
  ww : ∀ b, A b → w'.heap[b]? = w.heap[b]?
  hh : ∀ (id : Nat) (blk : Blk), H[id]? = some blk → blk ≠ .free → ∃ blk', H'[id]? = some blk' ∧ Later ι ι' id blk blk'

theorem cell_same {w w' : World} {a : Addr} (h : w'.heap[a.block]? = w.heap[a.block]?) : w'.cell? a = w.cell? a := by
  simp only [World.cell?, h]

theorem VR.keep {A A' : Nat → Prop} {ι ι' : Nat → Lk} {H H' : Heap} {w w' : World} (k : Keeps A A' ι ι' H H' w w') {v : V} {cv : Value} (h : VR A ι H w v cv) :
    VR A' ι' H' w' v cv := by
  induction h generalizing H' with
  | lit v => exact .lit v
  | nilA p => exact .nilA p
  | @arr H w rows b o cap sz hA hcap hsz hc hv ih =>
    have e : ∀ n, w'.cell? ⟨b, n, none⟩ = w.cell? ⟨b, n, none⟩ := fun n => cell_same (k.ww b hA)
    exact .arr rows b o cap sz (k.aa b hA) hcap hsz (fun i j r c h1 h2 => by rw [e]; exact hc i j r c h1 h2) (fun i j r c cv h1 h2 h3 => ih i j r c cv h1 h2 (by rw [← e]; exact h3) ⟨k.aa, k.ww, fun id blk h => by simp at h⟩)
  | @row H w cells b o hA hc hv ih =>
    have e : ∀ n, w'.cell? ⟨b, n, none⟩ = w.cell? ⟨b, n, none⟩ := fun n => cell_same (k.ww b hA)
    exact .row cells b o (k.aa b hA) (fun j c h1 => by rw [e]; exact hc j c h1) (fun j c cv h1 h3 => ih j c cv h1 (by rw [← e]; exact h3) ⟨k.aa, k.ww, fun id blk h => by simp at h⟩)
  | agg cs vs hl hv ih => exact .agg cs vs hl fun i c cv a b => ih i c cv a b k
  | tup cs vs hl hv ih => exact .tup cs vs hl fun i c cv a b => ih i c cv a b k
  | fn f cs vs hl hv ih => exact .fn f cs vs hl fun i c cv a b => ih i c cv a b k
  | own id ver off len a cap blk hid hf h =>
    obtain ⟨blk', h1, h2⟩ := k.hh id blk hid hf
    cases blk with
    | free => exact absurd rfl hf
    | rows sz ver0 rs =>
      have h0 := h sz ver0 rs rfl
      cases blk' with
      | rows sz' ver' rs' =>
        refine .own id ver off len a cap _ h1 (by simp) fun s v r e => ?_
        cases e
        rcases h2 with h2 | ⟨e1, e2, e3, e4⟩
        · rcases h0 with h0 | ⟨h0, _⟩
          · exact .inl (by omega)
          · exact .inl (by omega)
        · subst e1 e2; rw [e4, ← e3]; exact h0
      | free => simp [Later] at h2
      | gone => exact .own id ver off len a cap _ h1 (by simp) (fun _ _ _ e => by cases e)
      | map _ _ => simp [Later] at h2
      | iter _ _ => simp [Later] at h2
      | dfr => simp [Later] at h2
      | loop _ _ _ _ _ _ => simp [Later] at h2
    | _ => exact .own id ver off len a cap blk' h1 (by simp [Later] at h2; exact h2.2.1) (fun s v r e => absurd e (by simp [Later] at h2; exact h2.1 s v r))
  | ptr id ver r off a blk hid hf h =>
    obtain ⟨blk', h1, h2⟩ := k.hh id blk hid hf
    cases blk with
    | free => exact absurd rfl hf
    | rows sz ver0 rs =>
      have h0 := h sz ver0 rs rfl
      cases blk' with
      | rows sz' ver' rs' =>
        refine .ptr id ver r off a _ h1 (by simp) fun s v r e => ?_
        cases e
        rcases h2 with h2 | ⟨e1, e2, e3, e4⟩
        · rcases h0 with h0 | ⟨h0, _⟩
          · exact .inl (by omega)
          · exact .inl (by omega)
        · subst e1 e2; rw [e4]; exact h0
      | free => simp [Later] at h2
      | gone => exact .ptr id ver r off a _ h1 (by simp) (fun _ _ _ e => by cases e)
      | map _ _ => simp [Later] at h2
      | iter _ _ => simp [Later] at h2
      | dfr => simp [Later] at h2
      | loop _ _ _ _ _ _ => simp [Later] at h2
    | _ => exact .ptr id ver r off a blk' h1 (by simp [Later] at h2; exact h2.2.1) (fun s v r e => absurd e (by simp [Later] at h2; exact h2.1 s v r))
  | yld id blk hid hf hr =>
    obtain ⟨blk', h1, h2⟩ := k.hh id blk hid hf
    have h3 : (∀ sz ver rs, blk' ≠ .rows sz ver rs) ∧ blk' ≠ .free ∧ ι' id = ι id := by
      cases blk <;> first | exact absurd rfl hf | exact absurd rfl (hr _ _ _) | exact h2
    rw [← h3.2.2]; exact .yld id blk' h1 h3.2.1 h3.1
  | mp id blk hid hf hr =>
    obtain ⟨blk', h1, h2⟩ := k.hh id blk hid hf
    have h3 : (∀ sz ver rs, blk' ≠ .rows sz ver rs) ∧ blk' ≠ .free ∧ ι' id = ι id := by
      cases blk <;> first | exact absurd rfl hf | exact absurd rfl (hr _ _ _) | exact h2
    rw [← h3.2.2]; exact .mp id blk' h1 h3.2.1 h3.1
  | it id blk hid hf hr =>
    obtain ⟨blk', h1, h2⟩ := k.hh id blk hid hf
    have h3 : (∀ sz ver rs, blk' ≠ .rows sz ver rs) ∧ blk' ≠ .free ∧ ι' id = ι id := by
      cases blk <;> first | exact absurd rfl hf | exact absurd rfl (hr _ _ _) | exact h2
    rw [← h3.2.2]; exact .it id blk' h1 h3.2.1 h3.1

/-- What leans on no memory of the evaluator's own. -/
theorem VR.pure {A A' : Nat → Prop} {ι ι' : Nat → Lk} {H : Heap} {w : World} (hA : ∀ b, A b → A' b) {v : V} {cv : Value} (h : VR A ι [] w v cv) : VR A' ι' H w v cv :=
  h.keep ⟨hA, fun _ _ => rfl, fun id blk h => by simp at h⟩

/-- What one step of the program has done. -/
structure Ext (N A : Nat → Prop) (ι : Nat → Lk) (H : Heap) (w : World) (N' A' : Nat → Prop) (ι' : Nat → Lk) (H' : Heap) (w' : World) : Prop where
  sr : SR N' A' ι' H' w'
  keep : ∀ v cv, VR A ι H w v cv → VR A' ι' H' w' v cv
  nn : ∀ b, N b → N' b ∧ w'.heap[b]? = w.heap[b]?
  aa : ∀ b, A' b → A b ∨ w.heap.size ≤ b
  sub : ∀ b, A b → A' b
  size : w.heap.size ≤ w'.heap.size
  os : w'.os = w.os
  tape : w'.tape = w.tape
  output : w'.output = w.output

theorem Ext.refl {N A : Nat → Prop} {ι : Nat → Lk} {H : Heap} {w : World} (h : SR N A ι H w) : Ext N A ι H w N A ι H w :=
  ⟨h, fun _ _ h => h, fun _ h => ⟨h, rfl⟩, fun _ h => .inl h, fun _ h => h, Nat.le_refl _, rfl, rfl, rfl⟩

theorem Ext.trans {N A : Nat → Prop} {ι : Nat → Lk} {H : Heap} {w : World} {N' A' : Nat → Prop} {ι' : Nat → Lk} {H' : Heap} {w' : World} {N2 A2 : Nat → Prop} {ι2 : Nat → Lk} {H2 : Heap} {w2 : World}
    (h : Ext N A ι H w N' A' ι' H' w') (k : Ext N' A' ι' H' w' N2 A2 ι2 H2 w2) : Ext N A ι H w N2 A2 ι2 H2 w2 :=
  ⟨k.sr, fun v cv x => k.keep v cv (h.keep v cv x), fun b hb => ⟨(k.nn b (h.nn b hb).1).1, (k.nn b (h.nn b hb).1).2.trans (h.nn b hb).2⟩,
    fun b hb => (k.aa b hb).elim (h.aa b) (fun x => .inr (Nat.le_trans h.size x)), fun b hb => k.sub b (h.sub b hb), Nat.le_trans h.size k.size, k.os.trans h.os, k.tape.trans h.tape, k.output.trans h.output⟩

/-- The relation of the blocks, kept. -/
theorem BR.keep {A A' : Nat → Prop} {ι ι' : Nat → Lk} {H H' : Heap} {w w' : World} (k : ∀ v cv, VR A ι H w v cv → VR A' ι' H' w' v cv) {id : Nat} {blk : Blk}
    (hi : ι' id = ι id) (hw : blk.alive → w'.heap[(ι id).b]? = w.heap[(ι id).b]?) (h : BR A ι H w id blk) : BR A' ι' H' w' id blk := by
  cases blk with
  | free => trivial
  | gone => trivial
  | rows sz ver rs =>
    obtain ⟨cs, e, h1, h2, h3, h4, h5, h6⟩ := h
    refine ⟨cs, e, ?_, ?_, h3, ?_, ?_, by rw [hi]; exact h6⟩
    · rw [hi, hw trivial]; exact h1
    · rw [hi]; exact h2
    · rw [hi]; exact h4
    · rw [hi]; intro i j r c a b
      obtain ⟨cv, p, q⟩ := h5 i j r c a b
      exact ⟨cv, p, k _ _ q⟩
  | map es clock =>
    obtain ⟨es', h1, h2, h3⟩ := h
    refine ⟨es', ?_, h2, fun i kk v a => ?_⟩
    · rw [hi, hw trivial]; exact h1
    · obtain ⟨e, p, q, r⟩ := h3 i kk v a
      exact ⟨e, p, k _ _ q, k _ _ r⟩
  | iter s pos => simp only [BR] at h ⊢; rw [hi, hw trivial]; exact h
  | dfr => simp only [BR] at h ⊢; rw [hi, hw trivial]; exact h
  | loop ready pend tmps ps asg body =>
    obtain ⟨L, h1, h2, h3, h4, h5, h6, h7, h8⟩ := h
    refine ⟨L, ?_, h2, h3, h4, h5, h6, h7, fun i x cv a b => k _ _ (h8 i x cv a b)⟩
    rw [hi, hw trivial]; exact h1

theorem Later.refl (ι : Nat → Lk) (id : Nat) (b : Blk) : Later ι ι id b b := by
  cases b <;> simp [Later]

theorem call_some {self : Self} {H H' : Heap} {f : FuncId} {args : List V} {v : V} (h : self.call f args H = some (v, H')) : self.callX f args H = some (.ret v, H') := by
  unfold Self.call at h
  cases hq : self.callX f args H with
  | none => rw [hq] at h; cases h
  | some r =>
    obtain ⟨o, H1⟩ := r
    rw [hq] at h
    cases o with
    | ret v1 => simp only [retO, Option.some.injEq, Prod.mk.injEq] at h; obtain ⟨rfl, rfl⟩ := h; rfl
    | pan x => cases h
end Go.Proofs.YtpmdlaojndejfaaGreatDoor.E

/- What keeps the relation: a new block, a block that is written. -/
namespace Go.Proofs.YtpmdlaojndejfaaGreatDoor.E
open Go

def upd (ι : Nat → Lk) (id : Nat) (L : Lk) : Nat → Lk := fun i => if i = id then L else ι i
theorem upd_same (ι : Nat → Lk) (id : Nat) (L : Lk) : upd ι id L id = L := by simp [upd]
theorem upd_ne (ι : Nat → Lk) {id i : Nat} (L : Lk) (h : i ≠ id) : upd ι id L i = ι i := by simp [upd, h]

theorem place_get {H H' : Heap} {nid : Nat} {b : Blk} (h : place H nid b = some H') :
    H'[nid]? = some b ∧ (∀ i, i ≠ nid → H'[i]? = H[i]?) ∧ (H[nid]? = none ∨ H[nid]? = some .free) := by
  unfold place at h
  split at h
  · rename_i e
    simp only [Option.some.injEq] at h
    subst h; subst e
    refine ⟨by simp, fun i hi => ?_, .inl (by simp)⟩
    rcases Nat.lt_or_ge i H.length with hl | hl
    · rw [List.getElem?_append_left hl]
    · rw [List.getElem?_eq_none (by simp; omega), List.getElem?_eq_none hl]
  · split at h
    · rename_i e
      simp only [Option.some.injEq] at h
      subst h
      have hl : nid < H.length := (List.getElem?_eq_some_iff.1 e).1
      refine ⟨by simp [hl], fun i hi => by rw [List.getElem?_set_ne (Ne.symm hi)], .inr e⟩
    · cases h

theorem BR.lt {A : Nat → Prop} {ι : Nat → Lk} {H : Heap} {w : World} {id : Nat} {blk : Blk} (h : BR A ι H w id blk) (ha : blk.alive) : (ι id).b < w.heap.size := by
  have key : ∀ o, w.heap[(ι id).b]? = some o → (ι id).b < w.heap.size := fun o e => (Array.getElem?_eq_some_iff.1 e).1
  cases blk with
  | free => exact ha.elim
  | gone => exact ha.elim
  | rows _ _ _ => obtain ⟨_, _, h, _⟩ := h; exact key _ h
  | map _ _ => obtain ⟨_, h, _⟩ := h; exact key _ h
  | iter _ _ => exact key _ h
  | dfr => exact key _ h
  | loop _ _ _ _ _ _ => obtain ⟨_, h, _⟩ := h; exact key _ h

theorem Later.same {ι ι' : Nat → Lk} {id : Nat} (h : ι' id = ι id) (b : Blk) : Later ι ι' id b b := by
  cases b <;> simp [Later, h]

section
variable {N A : Nat → Prop} {ι : Nat → Lk} {H H' : Heap} {w w' : World}

/-- A new block. -/
theorem Ext.alloc (h : SR N A ι H w) {nid : Nat} {blk : Blk} (hp : place H nid blk = some H') {L : Lk} (hL : L.b = w.heap.size)
    (hw : ∀ k, k < w.heap.size → w'.heap[k]? = w.heap[k]?) (hs : w.heap.size ≤ w'.heap.size) (ho : w'.os = w.os) (ht : w'.tape = w.tape) (hu : w'.output = w.output)
    (hb : (∀ v cv, VR A ι H w v cv → VR A (upd ι nid L) H' w' v cv) → BR A (upd ι nid L) H' w' nid blk) :
    Ext N A ι H w N A (upd ι nid L) H' w' := by
  obtain ⟨p1, p2, p3⟩ := place_get hp
  have ne : ∀ (id : Nat) (b : Blk), H[id]? = some b → b ≠ .free → id ≠ nid := by
    rintro id b hbb hff rfl
    rcases p3 with p3 | p3 <;> rw [p3] at hbb
    · cases hbb
    · cases hbb; exact hff rfl
  have k : Keeps A A ι (upd ι nid L) H H' w w' := ⟨fun _ h => h, fun b hb => hw b (h.lt b (h.an b hb)), fun id b hb hf =>
    ⟨b, by rw [p2 id (ne id b hb hf)]; exact hb, .same (upd_ne ι L (ne id b hb hf)) b⟩⟩
  have keep : ∀ v cv, VR A ι H w v cv → VR A (upd ι nid L) H' w' v cv := fun v cv x => x.keep k
  have alf : ∀ b : Blk, b.alive → b ≠ .free := fun b ha e => by subst e; exact ha
  refine ⟨⟨?_, ?_, ?_, h.an, fun b hb => Nat.lt_of_lt_of_le (h.lt b hb) hs⟩, keep, fun b hb => ⟨hb, hw b (h.lt b hb)⟩, fun b hb => .inl hb, fun b hb => hb, hs, ho, ht, hu⟩
  · intro id b hid
    by_cases e : id = nid
    · subst e; rw [p1] at hid; cases hid; exact hb keep
    · rw [p2 id e] at hid
      exact BR.keep keep (upd_ne ι L e) (fun ha => hw _ ((h.live id b hid).lt ha)) (h.live id b hid)
  · intro i j bi bj hi hj ai aj e
    by_cases ei : i = nid <;> by_cases ej : j = nid
    · rw [ei, ej]
    · subst ei
      rw [upd_same, upd_ne ι L ej, hL] at e
      rw [p2 j ej] at hj
      have := (h.live j bj hj).lt aj; omega
    · subst ej
      rw [upd_same, upd_ne ι L ei, hL] at e
      rw [p2 i ei] at hi
      have := (h.live i bi hi).lt ai; omega
    · rw [upd_ne ι L ei, upd_ne ι L ej] at e
      rw [p2 i ei] at hi; rw [p2 j ej] at hj
      exact h.inj i j bi bj hi hj ai aj e
  · intro i bi hi ai hn
    by_cases ei : i = nid
    · subst ei; rw [upd_same, hL] at hn; exact Nat.lt_irrefl _ (h.lt _ hn)
    · rw [upd_ne ι L ei] at hn; rw [p2 i ei] at hi; exact h.apart i bi hi ai hn

/-- A block that is written, or moved to a new block of the machine's. -/
theorem Ext.turn (h : SR N A ι H w) {id : Nat} {blk blk' : Blk} (hid : H[id]? = some blk) (hal : blk.alive) {L : Lk} (hL : L.b = (ι id).b ∨ L.b = w.heap.size)
    (hw : ∀ k, k < w.heap.size → k ≠ L.b → w'.heap[k]? = w.heap[k]?) (hs : w.heap.size ≤ w'.heap.size) (ho : w'.os = w.os) (ht : w'.tape = w.tape) (hu : w'.output = w.output)
    (hl : Later ι (upd ι id L) id blk blk')
    (hb : (∀ v cv, VR A ι H w v cv → VR A (upd ι id L) (H.set id blk') w' v cv) → BR A (upd ι id L) (H.set id blk') w' id blk') :
    Ext N A ι H w N A (upd ι id L) (H.set id blk') w' := by
  have hlt : id < H.length := (List.getElem?_eq_some_iff.1 hid).1
  have p1 : (H.set id blk')[id]? = some blk' := by simp [hlt]
  have p2 : ∀ i, i ≠ id → (H.set id blk')[i]? = H[i]? := fun i hi => by rw [List.getElem?_set_ne (Ne.symm hi)]
  have nL : ∀ b, N b → b ≠ L.b := by
    intro b hb e
    rcases hL with hL | hL
    · exact h.apart id blk hid hal (by rw [← hL, ← e]; exact hb)
    · have := h.lt b hb; omega
  have k : Keeps A A ι (upd ι id L) H (H.set id blk') w w' := ⟨fun _ h => h, fun b hb => hw b (h.lt b (h.an b hb)) (nL b (h.an b hb)), fun i b hbb hff => by
    by_cases e : i = id
    · subst e; rw [hid] at hbb; cases hbb; exact ⟨blk', p1, hl⟩
    · exact ⟨b, by rw [p2 i e]; exact hbb, .same (upd_ne ι L e) b⟩⟩
  have keep : ∀ v cv, VR A ι H w v cv → VR A (upd ι id L) (H.set id blk') w' v cv := fun v cv x => x.keep k
  have oth : ∀ (i : Nat) (b : Blk), i ≠ id → H[i]? = some b → b.alive → (ι i).b ≠ L.b := by
    intro i b hi hb ha e
    rcases hL with hL | hL
    · exact hi (h.inj i id b blk hb hid ha hal (e.trans hL))
    · have := (h.live i b hb).lt ha; omega
  refine ⟨⟨?_, ?_, ?_, h.an, fun b hb => Nat.lt_of_lt_of_le (h.lt b hb) hs⟩, keep, fun b hb => ⟨hb, hw b (h.lt b hb) (nL b hb)⟩, fun b hb => .inl hb, fun b hb => hb, hs, ho, ht, hu⟩
  · intro i b hi
    by_cases e : i = id
    · subst e; rw [p1] at hi; cases hi; exact hb keep
    · rw [p2 i e] at hi
      exact BR.keep keep (upd_ne ι L e) (fun ha => hw _ ((h.live i b hi).lt ha) (oth i b e hi ha)) (h.live i b hi)
  · intro i j bi bj hi hj ai aj e
    by_cases ei : i = id <;> by_cases ej : j = id
    · rw [ei, ej]
    · subst ei
      rw [upd_same, upd_ne ι L ej] at e
      rw [p2 j ej] at hj
      exact absurd e.symm (oth j bj ej hj aj)
    · subst ej
      rw [upd_same, upd_ne ι L ei] at e
      rw [p2 i ei] at hi
      exact absurd e (oth i bi ei hi ai)
    · rw [upd_ne ι L ei, upd_ne ι L ej] at e
      rw [p2 i ei] at hi; rw [p2 j ej] at hj
      exact h.inj i j bi bj hi hj ai aj e
  · intro i bi hi ai hn
    by_cases ei : i = id
    · subst ei; rw [upd_same] at hn; exact nL _ hn rfl
    · rw [upd_ne ι L ei] at hn; rw [p2 i ei] at hi; exact h.apart i bi hi ai hn
end

/-! Cells of the machine's. -/
theorem alloc_lt (w : World) (o : Obj) (k : Nat) (h : k < w.heap.size) : (w.alloc o).heap[k]? = w.heap[k]? := Go.RowKit.Below.heap_alloc w o k h
theorem alloc_new (w : World) (o : Obj) : (w.alloc o).heap[w.heap.size]? = some o := by show (w.heap.push o)[w.heap.size]? = _; simp

/-- Values of a frame. -/
def TR (A : Nat → Prop) (ι : Nat → Lk) (H : Heap) (w : World) (ts : List V) (vs : Array Value) : Prop :=
  ts.length = vs.size ∧ ∀ (i : Nat) (x : V) (cv : Value), ts[i]? = some x → vs[i]? = some cv → VR A ι H w x cv

section
variable {A : Nat → Prop} {ι : Nat → Lk} {H : Heap} {w : World}
theorem TR.keep {A' : Nat → Prop} {ι' : Nat → Lk} {H' : Heap} {w' : World} (k : ∀ v cv, VR A ι H w v cv → VR A' ι' H' w' v cv) {ts : List V} {vs : Array Value} (h : TR A ι H w ts vs) :
    TR A' ι' H' w' ts vs := ⟨h.1, fun i x cv a b => k _ _ (h.2 i x cv a b)⟩
theorem TR.put {ts : List V} {vs : Array Value} (h : TR A ι H w ts vs) {v : V} {cv : Value} (hv : VR A ι H w v cv) (dst : Option Tmp) (ds : List Deferred) :
    TR A ι H w (put ts dst v) ((({ tmps := vs, defers := ds } : Act).put dst cv).tmps) := by
  cases dst with
  | none => exact h
  | some d =>
    refine ⟨by simp [E.put, Act.put, h.1], fun i x c a b => ?_⟩
    simp only [E.put, Act.put] at a b
    by_cases e : d = i
    · subst e
      have hd : d < ts.length := by
        have := (List.getElem?_eq_some_iff.1 a).1; simpa using this
      rw [List.getElem?_set_self hd] at a
      rw [Array.getElem?_setIfInBounds_self_of_lt (h.1 ▸ hd)] at b
      cases a; cases b; exact hv
    · rw [List.getElem?_set_ne e] at a
      rw [Array.getElem?_setIfInBounds_ne e] at b
      exact h.2 i x c a b

theorem VR.ofValue (v : Value) : VR A ι H w (E.ofValue v) v := by
  unfold E.ofValue
  split
  · rename_i cs
    refine .agg _ _ (by simp) fun i c cv h1 h2 => ?_
    simp only [List.getElem?_map, Option.map_eq_some_iff] at h1
    obtain ⟨x, hx, rfl⟩ := h1
    have : cs[i]? = some x := by simpa using hx
    rw [this] at h2; cases h2; exact .lit _
  · rename_i f a b
    split
    · rename_i e
      have ea : a = #[] := Array.eq_empty_of_size_eq_zero e.1
      have eb : b = #[] := Array.eq_empty_of_size_eq_zero e.2
      subst ea; subst eb
      exact .fn _ _ _ (by simp) (fun i c cv h1 _ => by simp at h1)
    · exact .lit _
  · exact .lit _

theorem TR.eval {ts : List V} {a : Act} (h : TR A ι H w ts a.tmps) (x : Operand) : VR A ι H w (evalO ts x) (a.eval x) := by
  cases x with
  | tmp t =>
    simp only [evalO, Act.eval]
    rcases Nat.lt_or_ge t ts.length with hl | hl
    · have hl' : t < a.tmps.size := h.1 ▸ hl
      refine h.2 t _ _ ?_ ?_
      · simp [hl]
      · simp [hl']
    · have hl' : a.tmps.size ≤ t := h.1 ▸ hl
      simp [List.getD, List.getElem?_eq_none hl, Array.getD_eq_getD_getElem?, Array.getElem?_eq_none hl', un]
      exact .lit _
  | const v => exact .ofValue v
  | global g => exact .lit _
  | func f => exact .fn _ _ _ (by simp) (fun i c cv h1 _ => by simp at h1)

theorem litOf_eq {v : V} {x cv : Value} (h : litOf v = some x) (hv : VR A ι H w v cv) : cv = x := by
  cases hv <;> simp [litOf] at h
  exact h
theorem litsOf_len : ∀ {cs : List V} {l : List Value}, litsOf cs = some l → l.length = cs.length ∧ ∀ (i : Nat) (c : V) (x : Value), cs[i]? = some c → l[i]? = some x → litOf c = some x
  | [], l, h => by simp [litsOf] at h; subst h; simp
  | v :: vs, l, h => by
    simp only [litsOf, Option.bind_eq_some_iff] at h
    obtain ⟨x, hx, xs, hxs, h⟩ := h
    simp only [Option.some.injEq] at h; subst h
    obtain ⟨h1, h2⟩ := litsOf_len hxs
    refine ⟨by simp [h1], fun i c y hc hy => ?_⟩
    cases i with
    | zero => simp at hc hy; subst hc hy; exact hx
    | succ i => simp at hc hy; exact h2 i c y hc hy
theorem toValue_eq {v : V} {x cv : Value} (h : toValue? v = some x) (hv : VR A ι H w v cv) : cv = x := by
  cases hv with
  | lit v => simpa [toValue?] using h
  | agg cs vs hl hv =>
    simp only [toValue?, Option.map_eq_some_iff] at h
    obtain ⟨l, h1, rfl⟩ := h
    obtain ⟨h2, h3⟩ := litsOf_len h1
    congr 1
    apply Array.ext_getElem?
    intro i
    rcases Nat.lt_or_ge i cs.length with hi | hi
    · have e1 : cs[i]? = some cs[i] := by simp [hi]
      have e2 : vs[i]? = some (vs[i]'(hl ▸ hi)) := by simp [hl ▸ hi]
      have e3 : l[i]? = some (l[i]'(h2 ▸ hi)) := by simp
      have := litOf_eq (h3 i _ _ e1 e3) (hv i _ _ e1 e2)
      rw [e2, this]; simp [h2 ▸ hi]
    · rw [Array.getElem?_eq_none (hl ▸ hi), Array.getElem?_eq_none (by simp; omega)]
  | _ => simp [toValue?] at h

theorem run_of_pure (P : Program) {α : Type} : ∀ (s : Sem α) (a : α), pureRun P s = some a → ∀ w, s.run P w = .ok a w := by
  intro s
  induction s with
  | pure b => intro a h w; simp [pureRun] at h; subst h; rfl
  | program k ih => intro a h w; simp only [pureRun] at h; simp only [Sem.run]; exact ih _ a h w
  | mark m k ih => intro a h w; simp only [pureRun] at h; simp only [Sem.run]; exact ih a h w
  | _ => intro a h; simp [pureRun] at h
end
end Go.Proofs.YtpmdlaojndejfaaGreatDoor.E

/- What is handed in, as the evaluator's values. -/
set_option linter.unusedVariables false
set_option linter.unusedSimpArgs false
namespace Go.Proofs.YtpmdlaojndejfaaGreatDoor.E
open Go

/-- The shape of a cell: a number, a string, a truth value, a slice of rows. -/
inductive CS where
  | int (k : IntKind)
  | str
  | bool
  | sl (row : List CS)
def fieldsS (P : Program) (g : TypeId → Option (List CS)) : List Field → Nat → Option (List CS)
  | [], _ => some []
  | f :: fs, off => if f.offset = off then (g f.type).bind fun s => if P.cellsOf f.type = s.length then (fieldsS P g fs (off + s.length)).map (s ++ ·) else none else none
def csT (P : Program) : Nat → TypeId → Option (List CS)
  | 0, _ => none
  | k + 1, t => match P.underlying t with
    | some (.int k) => some [.int k]
    | some .string => some [.str]
    | some .bool => some [.bool]
    | some (.slice e) => (csT P k e).bind fun r => if P.cellsOf e = r.length ∧ r.length ≠ 0 ∧ P.bytesOf e ≠ 0 then some [.sl r] else none
    | some (.struct fs) => (fieldsS P (csT P k) fs.toList 0).bind fun r => if P.cellsOf t = r.length then some r else none
    | _ => none
mutual
/-- A value of a shape; sizes are such that a machine can hold them. -/
def okC : CS → V → Prop
  | .int k, v => ∃ n, v = .lit (.int k n) ∧ (Lit.int k n).wf = true
  | .str, v => ∃ s, v = .lit (.string s) ∧ s.size ≤ reachBytes
  | .bool, v => ∃ b, v = .lit (.bool b)
  | .sl r, v => ∃ rows, v = .arr rows ∧ rows.length ≤ reachBytes ∧ ∀ row ∈ rows, okL r row
def okL : List CS → List V → Prop
  | [], vs => vs = []
  | c :: cs, vs => ∃ v vs', vs = v :: vs' ∧ okC c v ∧ okL cs vs'
end
theorem okL_len : ∀ {sh : List CS} {vs : List V}, okL sh vs → vs.length = sh.length
  | [], vs, h => by simp only [okL] at h; subst h; rfl
  | c :: cs, vs, h => by
    simp only [okL] at h
    obtain ⟨v, vs', rfl, _, h⟩ := h
    simp [okL_len h]
theorem okL_app : ∀ {a b : List CS} {x y : List V}, okL a x → okL b y → okL (a ++ b) (x ++ y)
  | [], b, x, y, h, h2 => by simp only [okL] at h; subst h; exact h2
  | c :: cs, b, x, y, h, h2 => by
    simp only [okL] at h
    obtain ⟨v, vs', rfl, h0, h⟩ := h
    simp only [List.cons_append, okL]
    exact ⟨v, vs' ++ y, rfl, h0, okL_app h h2⟩
theorem skolem {α : Type} {Q : Nat → α → Prop} : ∀ (n : Nat), (∀ i, i < n → ∃ x, Q i x) → ∃ l : List α, l.length = n ∧ ∀ i x, l[i]? = some x → Q i x
  | 0, _ => ⟨[], rfl, fun i x h => by simp at h⟩
  | n + 1, h => by
    obtain ⟨l, h1, h2⟩ := skolem n fun i hi => h i (by omega)
    obtain ⟨x, hx⟩ := h n (by omega)
    refine ⟨l ++ [x], by simp [h1], fun i y hy => ?_⟩
    rw [List.getElem?_append] at hy
    split at hy
    · exact h2 i y hy
    · rename_i hge
      have : i = n := by
        have := (List.getElem?_eq_some_iff.1 hy).1
        simp at this; omega
      subst this
      simp [h1] at hy; subst hy; exact hx
section
variable {H : Type} {enc : TypeId × Value → H} {P : Program} {w : World} {A : Nat → Prop} {ι : Nat → Lk} {held : Bool}
/-- Each cell is meant by its value. -/
def meant (A : Nat → Prop) (ι : Nat → Lk) (w : World) (vs : List V) (cs : List Value) : Prop :=
  vs.length = cs.length ∧ ∀ (i : Nat) (v : V) (cv : Value), vs[i]? = some v → cs[i]? = some cv → VR A ι [] w v cv
theorem meant_app {a b : List V} {x y : List Value} (h1 : meant A ι w a x) (h2 : meant A ι w b y) : meant A ι w (a ++ b) (x ++ y) := by
  refine ⟨by simp [h1.1, h2.1], fun i v cv hv hc => ?_⟩
  rw [List.getElem?_append] at hv hc
  have := h1.1
  split at hv
  · rw [if_pos (by omega)] at hc; exact h1.2 i v cv hv hc
  · rw [if_neg (by omega), ← this] at hc; exact h2.2 _ v cv hv hc
theorem meant_one {v : V} {cv : Value} (h : VR A ι [] w v cv) : meant A ι w [v] [cv] := ⟨rfl, fun (i : Nat) x y a b => by
  have : i = 0 := by have := (List.getElem?_eq_some_iff.1 a).1; simp at this; exact this
  subst this
  simp at a b; subst a; subst b; exact h⟩
/-- What is read of cells by the type, as values. -/
def Opens (A : Nat → Prop) (ι : Nat → Lk) (P : Program) (w : World) (enc : TypeId × Value → H) (held : Bool) (t : TypeId) (sh : List CS) : Prop :=
  ∀ fuel cs x, DataW.trod enc P w 0 (fun _ => true) held fuel t cs = some x → (∀ n ∈ DataW.weights P t x.1, n ≤ reachBytes) → ∃ vs, okL sh vs ∧ meant A ι w vs cs
theorem fields_open {g : TypeId → Option (List CS)} (hg : ∀ t sh, g t = some sh → Opens A ι P w enc held t sh) {n : Nat} {cs : List Value} : ∀ (fs : List Field) (off : Nat) (sh : List CS) (xs : List (DataW H × List MemPlace)), fieldsS P g fs off = some sh → xs.length = fs.length →
    (∀ (i : Nat) (f : Field), fs[i]? = some f → DataW.trod enc P w 0 (fun _ => true) held n f.type ((cs.drop f.offset).take (P.cellsOf f.type)) = xs[i]?) →
    (∀ (i : Nat) (f : Field) (x : DataW H × List MemPlace), fs[i]? = some f → xs[i]? = some x → ∀ m ∈ DataW.weights P f.type x.1, m ≤ reachBytes) → off + sh.length = cs.length →
    ∃ vs, okL sh vs ∧ meant A ι w vs (cs.drop off)
  | [], off, sh, xs, h, hl, ht, hw, hc => by
    simp only [fieldsS, Option.some.injEq] at h; subst h
    refine ⟨[], rfl, ?_⟩
    rw [List.drop_eq_nil_of_le (by simp at hc; omega)]
    exact ⟨rfl, fun i v cv a => by simp at a⟩
  | f :: fs, off, sh, xs, h, hl, ht, hw, hc => by
    simp only [fieldsS] at h
    split at h
    case isFalse => cases h
    rename_i ho
    simp only [Option.bind_eq_some_iff] at h
    obtain ⟨s, hs, h⟩ := h
    split at h
    case isFalse => cases h
    rename_i hcell
    simp only [Option.map_eq_some_iff] at h
    obtain ⟨sh', hsh, rfl⟩ := h
    cases xs with
    | nil => simp at hl
    | cons x xs =>
      have h0 := ht 0 f rfl
      simp only [List.getElem?_cons_zero] at h0
      rw [ho, hcell] at h0
      obtain ⟨v1, a1, a2⟩ := hg _ _ hs _ _ _ h0 (hw 0 f x rfl rfl)
      obtain ⟨v2, b1, b2⟩ := fields_open hg fs (off + s.length) sh' xs hsh (by simpa using hl) (fun i f' hf => by simpa using ht (i + 1) f' (by simpa using hf)) (fun i f' x' hf hx => hw (i + 1) f' x' (by simpa using hf) (by simpa using hx)) (by simp at hc; omega)
      refine ⟨v1 ++ v2, okL_app a1 b1, ?_⟩
      have e : cs.drop off = (cs.drop off).take s.length ++ cs.drop (off + s.length) := by
        rw [← List.drop_drop]; exact (List.take_append_drop _ _).symm
      rw [e]
      exact meant_app a2 b2
theorem cells_open (hA : ∀ b, b < w.heap.size → A b) : ∀ (k : Nat) (t : TypeId) (sh : List CS), csT P k t = some sh → Opens A ι P w enc held t sh
  | 0, t, sh, h => by cases h
  | k + 1, t, sh, h => by
    have ih := cells_open hA k
    intro fuel cs x hx hw
    simp only [csT] at h
    split at h
    · rename_i kd ht
      simp only [Option.some.injEq] at h; subst h
      obtain ⟨n, rfl, rfl, hwf⟩ := DataW.trod_int ht hx
      exact ⟨[.lit (.int kd n)], ⟨_, _, rfl, ⟨n, rfl, hwf⟩, rfl⟩, meant_one (.lit _)⟩
    · rename_i ht
      simp only [Option.some.injEq] at h; subst h
      obtain ⟨s, rfl, rfl, _⟩ := DataW.trod_string ht hx
      have := hw s.data.toList.length (by simp [DataW.weights])
      exact ⟨[.lit (.string s)], ⟨_, _, rfl, ⟨s, rfl, by simpa using this⟩, rfl⟩, meant_one (.lit _)⟩
    · rename_i ht
      simp only [Option.some.injEq] at h; subst h
      obtain ⟨b, rfl, rfl⟩ := DataW.trod_bool ht hx
      exact ⟨[.lit (.bool b)], ⟨_, _, rfl, ⟨b, rfl⟩, rfl⟩, meant_one (.lit _)⟩
    · rename_i e ht
      simp only [Option.bind_eq_some_iff] at h
      obtain ⟨r, hr, h⟩ := h
      split at h
      case isFalse => cases h
      rename_i hc
      obtain ⟨hc, hr0, hb⟩ := hc
      simp only [Option.some.injEq] at h; subst h
      rcases DataW.trod_slice ht hx with ⟨rfl, _⟩ | ⟨a, len, cap, elems, rest, n, _, rfl, rfl, _, hl, _, hlen, hel, hsp, _⟩
      · exact ⟨[.arr []], ⟨_, _, rfl, ⟨[], rfl, Nat.zero_le _, by simp⟩, rfl⟩, meant_one (.nilA none)⟩
      · obtain ⟨hrest, hel2⟩ := hsp rfl
        have hwt : ∀ m, m = (elems.length + rest.length) * P.bytesOf e ∨ m ∈ DataW.weightsAll P e (elems.map (·.1)) → m ≤ reachBytes := fun m hm => hw m (by
          simp only [DataW.weights, ht, List.mem_cons, List.mem_append, List.length_map]
          rcases hm with hm | hm
          · exact .inl hm
          · exact .inr (.inl hm))
        by_cases hcap : cap = 0
        · have : len = 0 := by omega
          subst this; subst hcap
          exact ⟨[.arr []], ⟨_, _, rfl, ⟨[], rfl, Nat.zero_le _, by simp⟩, rfl⟩, meant_one (.nilA (some a))⟩
        · -- the address
          have first : ∃ cs1, w.cells? 0 a (P.cellsOf e) = some cs1 := by
            by_cases h0 : 0 < len
            · have := hel 0 h0
              rw [Nat.zero_mul] at this
              have ha : a.add 0 = a := by simp [Addr.add]
              rw [ha] at this
              cases hcs : w.cells? 0 a (P.cellsOf e) with
              | none =>
                rw [hcs, Option.bind_none] at this
                have := List.getElem?_eq_none_iff.1 this.symm
                omega
              | some cs1 => exact ⟨cs1, rfl⟩
            · have l0 : len = 0 := by omega
              have := hel2 0 (by omega)
              rw [l0, Nat.zero_add, Nat.zero_mul] at this
              have ha : a.add 0 = a := by simp [Addr.add]
              rw [ha] at this
              cases hcs : w.cells? 0 a (P.cellsOf e) with
              | none =>
                rw [hcs, Option.bind_none] at this
                have := List.getElem?_eq_none_iff.1 this.symm
                omega
              | some cs1 => exact ⟨cs1, rfl⟩
          obtain ⟨cs1, hcs1⟩ := first
          obtain ⟨_, hn1, hat1⟩ := World.cells?_some hcs1
          have hlt0 : 0 < P.cellsOf e := by rw [hc]; exact Nat.pos_of_ne_zero hr0
          have hcell0 := hat1 0 hlt0
          have ha0 : a.add 0 = a := by simp [Addr.add]
          rw [ha0] at hcell0
          obtain ⟨bk, o, spt⟩ := a
          have hget : cs1[0]? = some (cs1[0]'(by omega)) := List.getElem?_eq_getElem _
          rw [hget] at hcell0
          have hspt : spt = none := by
            unfold World.cell? at hcell0
            split at hcell0
            · split at hcell0
              · cases hcell0
              · rename_i hn; cases spt <;> simp_all
            · cases hcell0
          subst hspt
          have hbk : bk < w.heap.size := by
            unfold World.cell? at hcell0
            split at hcell0
            · rename_i hh; exact (Array.getElem?_eq_some_iff.1 hh).1
            · cases hcell0
          have hadd : ∀ i, (⟨bk, o, none⟩ : Addr).add i = ⟨bk, o + i, none⟩ := fun i => by
            simp only [Addr.add]; split
            · rename_i hi; subst hi; rfl
            · rfl
          have each : ∀ i, i < len → ∃ row, okL r row ∧ ∃ c1, w.cells? 0 (⟨bk, o + i * P.cellsOf e, none⟩) (P.cellsOf e) = some c1 ∧ meant A ι w row c1 := fun i hi => by
            have := hel i hi
            rw [hadd] at this
            have hi' : i < elems.length := by omega
            rw [List.getElem?_eq_getElem hi', Option.bind_eq_some_iff] at this
            obtain ⟨c1, h1, h2⟩ := this
            obtain ⟨row, g1, g2⟩ := ih e r hr _ _ _ h2 (fun m hm => hwt m (.inr (by
              have mem : ∀ (l : List (DataW H)) (d : DataW H), d ∈ l → ∀ m ∈ DataW.weights P e d, m ∈ DataW.weightsAll P e l := by
                intro l
                induction l with
                | nil => intro d hd; cases hd
                | cons a l ihl =>
                  intro d hd m hm
                  simp only [DataW.weightsAll, List.mem_append]
                  rcases List.mem_cons.1 hd with rfl | hd
                  · exact .inl hm
                  · exact .inr (ihl d hd m hm)
              exact mem _ _ (List.mem_map.2 ⟨elems[i], List.getElem_mem hi', rfl⟩) m hm)))
            exact ⟨row, g1, c1, h1, g2⟩
          obtain ⟨rows, hrl, hrows⟩ := skolem len each
          have hcellat : ∀ (i j : Nat) (rw' : List V) (c : V), rows[i]? = some rw' → rw'[j]? = some c → ∃ cv, w.cell? ⟨bk, o + i * r.length + j, none⟩ = some cv ∧ VR A ι [] w c cv := fun i j rw' c hi hj => by
            obtain ⟨g1, c1, g2, g3⟩ := hrows i rw' hi
            obtain ⟨_, hn, hat⟩ := World.cells?_some g2
            have hjl : j < c1.length := by
              have := (List.getElem?_eq_some_iff.1 hj).1
              rw [← g3.1]; exact this
            have h1 := hat j (by omega)
            rw [List.getElem?_eq_getElem hjl] at h1
            have e1 : (⟨bk, o + i * P.cellsOf e, none⟩ : Addr).add j = ⟨bk, o + i * r.length + j, none⟩ := by
              simp only [Addr.add, hc]; split
              · rename_i hz; subst hz; rfl
              · rfl
            rw [e1] at h1
            exact ⟨_, h1, g3.2 j c _ hj (List.getElem?_eq_getElem hjl)⟩
          have hbig : rows.length ≤ reachBytes := by
            have := hwt _ (.inl rfl)
            have h2 : elems.length * 1 ≤ (elems.length + rest.length) * P.bytesOf e := Nat.mul_le_mul (by omega) (by omega)
            omega
          refine ⟨[.arr rows], ⟨_, _, rfl, ⟨rows, rfl, hbig, fun row hm => ?_⟩, rfl⟩, ?_⟩
          · obtain ⟨i, hi⟩ := List.getElem?_of_mem hm
            exact (hrows i row hi).1
          · refine meant_one ?_
            have := VR.arr (A := A) (ι := ι) (H := []) (w := w) rows bk o cap r.length (hA bk hbk) (by omega) (fun i rw' hi => by rw [okL_len (hrows i rw' hi).1]) (fun i j rw' c hi hj => by
              obtain ⟨cv, g, _⟩ := hcellat i j rw' c hi hj; exact ⟨cv, g⟩) (fun i j rw' c cv hi hj hcv => by
              obtain ⟨cv', g1, g2⟩ := hcellat i j rw' c hi hj
              rw [g1] at hcv; cases hcv
              have := g2
              exact this)
            rw [hrl] at this; exact this
    · rename_i fs ht
      simp only [Option.bind_eq_some_iff] at h
      obtain ⟨r, hr, h⟩ := h
      split at h
      case isFalse => cases h
      rename_i hc
      simp only [Option.some.injEq] at h; subst h
      obtain ⟨xs, n, rfl, rfl, hcl, hxl, hat⟩ := DataW.trod_struct ht hx
      have := fields_open (cs := cs) (n := n) (fun t sh hg => ih t sh hg) fs.toList 0 r xs hr (by simpa using hxl) (fun i f hf => hat i f (by simpa using hf)) (fun i f x hf hx m hm => hw m (by
        simp only [DataW.weights, ht]
        exact DataW.weights_mem_each (j := i) (t := f.type) (d := x.1) (by simp at hf ⊢; exact ⟨f, hf, rfl⟩) (by simp [hx]) m hm)) (by rw [Nat.zero_add, ← hc]; exact hcl.symm)
      simpa using this
    · cases h
end
end Go.Proofs.YtpmdlaojndejfaaGreatDoor.E

/- The evaluator's operations against the machine's: reading. -/
set_option linter.unusedVariables false
namespace Go.Proofs.YtpmdlaojndejfaaGreatDoor.E
open Go

theorem exists_list {p : Nat → Value → Prop} : ∀ n, (∀ j, j < n → ∃ v, p j v) → ∃ L : List Value, L.length = n ∧ ∀ (j : Nat) (v : Value), L[j]? = some v → p j v
  | 0, _ => ⟨[], rfl, fun j v h => by simp at h⟩
  | n + 1, h => by
    obtain ⟨L, h1, h2⟩ := exists_list n fun j hj => h j (by omega)
    obtain ⟨v, hv⟩ := h n (by omega)
    refine ⟨L ++ [v], by simp [h1], fun j x hx => ?_⟩
    rcases Nat.lt_or_ge j n with hj | hj
    · rw [List.getElem?_append_left (by omega)] at hx; exact h2 j x hx
    · have hlt := (List.getElem?_eq_some_iff.1 hx).1
      have e : j = n := by simp at hlt; omega
      subst e
      rw [List.getElem?_append_right (by omega)] at hx
      simp [h1] at hx; subst hx; exact hv

theorem add_none (b o n : Nat) : (⟨b, o, none⟩ : Addr).add n = ⟨b, o + n, none⟩ := by
  unfold Addr.add
  split
  · rename_i h; simp [h]
  · rfl

section
variable {P : Program} {A : Nat → Prop} {ι : Nat → Lk} {H : Heap} {w : World}

theorem und_info {t : TypeId} {d : TypeDesc} (h : P.underlying t = some d) : ∃ i, P.info? t = some i := by
  unfold Program.underlying at h
  cases hi : P.info? t with
  | none => rw [hi] at h; simp at h
  | some i => exact ⟨i, rfl⟩
theorem run_sizeT {t : TypeId} {i : TypeInfo} (h : P.info? t = some i) (w : World) : (sizeOf t).run P w = .ok (sizeT P t) w := by
  simp [sizeOf, typeInfo, h, sizeT, Program.cellsOf]
theorem run_isAggT {t : TypeId} {d : TypeDesc} (h : P.underlying t = some d) (w : World) : (isAgg t).run P w = .ok (aggT P t) w := by
  unfold isAgg aggT
  simp only [Sem.run_bind, run_underlying h, Result.andThen_ok, h]
  cases d <;> simp
theorem size_info {t : TypeId} (h : sizeT P t ≠ 0) : ∃ i, P.info? t = some i := by
  unfold sizeT Program.cellsOf at h
  cases hi : P.info? t with
  | none => rw [hi] at h; simp at h
  | some i => exact ⟨i, rfl⟩

/-- A variable's cells, read. -/
theorem loadVar_sound {t : TypeId} {cs : List V} {off : Nat} {x : V} (h : partT P t cs off = some x) {b base : Nat}
    (hc : ∀ (j : Nat) (c : V), cs[j]? = some c → ∃ cv, w.cell? ⟨b, base + j, none⟩ = some cv ∧ VR A ι H w c cv) :
    ∃ cv, (loadVar t ⟨b, base + off, none⟩).run P w = .ok cv w ∧ VR A ι H w x cv := by
  unfold partT at h
  split at h
  case isFalse => cases h
  rename_i hsome
  obtain ⟨d, hd⟩ := Option.isSome_iff_exists.1 hsome
  obtain ⟨i, hi⟩ := und_info hd
  unfold loadVar
  simp only [Sem.run_bind, run_isAggT hd, Result.andThen_ok]
  split at h
  · rename_i ha
    rw [if_pos ha]
    split at h
    · rename_i hl
      simp only [Option.some.injEq] at h; subst h
      obtain ⟨L, h1, h2⟩ := exists_list (p := fun j v => ∃ c, cs[off + j]? = some c ∧ w.cell? ⟨b, base + off + j, none⟩ = some v ∧ VR A ι H w c v) (sizeT P t) fun j hj => by
        have hlt : off + j < cs.length := by omega
        obtain ⟨cv, p, q⟩ := hc (off + j) _ (List.getElem?_eq_getElem hlt)
        exact ⟨cv, _, List.getElem?_eq_getElem hlt, by rw [Nat.add_assoc]; exact p, q⟩
      have hr := run_loadCells_list (P := P) w ⟨b, base + off, none⟩ L (fun j v hv => by
        rw [add_none]; obtain ⟨c, p, q, r⟩ := h2 j v hv; exact q)
      rw [h1] at hr
      refine ⟨.agg L.toArray, by simp [run_sizeT hi, hr], ?_⟩
      refine .agg _ _ (by simp [h1]; omega) fun j c cv e1 e2 => ?_
      obtain ⟨c', p, q, r⟩ := h2 j cv (by simpa using e2)
      have : c = c' := by
        rw [List.getElem?_take] at e1
        split at e1
        · rw [List.getElem?_drop, p] at e1; cases e1; rfl
        · cases e1
      subst this; exact r
    · cases h
  · rename_i ha
    rw [if_neg ha]
    obtain ⟨cv, p, q⟩ := hc off x h
    exact ⟨cv, by simp [p], q⟩

/-- What a block says of its cells. -/
theorem BR.cells {id sz ver : Nat} {rs : List (List V)} (h : BR A ι H w id (.rows sz ver rs)) {r : Nat} {cs : List V} (hr : rs[r]? = some cs) (j : Nat) (c : V) (hc : cs[j]? = some c) :
    ∃ cv, w.cell? ⟨(ι id).b, (ι id).o + r * sz + j, none⟩ = some cv ∧ VR A ι H w c cv := by
  obtain ⟨xs, e, h1, h2, h3, h4, h5, _⟩ := h
  obtain ⟨cv, p, q⟩ := h5 r j cs c hr hc
  exact ⟨cv, by simp [World.cell?, h1, p], q⟩

/-- The listed variables. -/
structure GR (E : Env) (A : Nat → Prop) (ι : Nat → Lk) (H : Heap) (w : World) : Prop where
  glob : ∀ (g : Nat) (cs : List V), E.glob g = some cs → A g ∧ ∀ (j : Nat) (c : V), cs[j]? = some c → ∃ cv, w.cell? ⟨g, 0 + j, none⟩ = some cv ∧ VR A ι [] w c cv
  world : ∃ w0 : World, E.inv w0 ∧ (∀ b, b < w0.heap.size → A b) ∧ RowKit.Below w0.heap.size w0 w

theorem loadAt_sound {E : Env} {N : Nat → Prop} (hs : SR N A ι H w) (hg : GR E A ι H w) {t : TypeId} {a x : V} {ca : Value} (ha : VR A ι H w a ca)
    (h : loadT E H t a = some x) : ∃ cv, (Instr.loadAt t ca).run E.P w = .ok cv w ∧ VR A ι H w x cv := by
  cases ha with
  | ptr id ver r off a blk hid hf hh =>
    simp only [loadT, hid] at h
    cases blk with
    | rows sz ver' rs =>
      simp only at h
      split at h
      · rename_i e; subst e
        simp only [Option.bind_eq_some_iff] at h
        obtain ⟨cs, hcs, hp⟩ := h
        rcases hh sz _ rs rfl with hh | ⟨_, hh⟩
        · omega
        · subst hh
          obtain ⟨cv, p, q⟩ := loadVar_sound hp (b := (ι id).b) (base := (ι id).o + r * sz) (fun j c hc => (hs.live id _ hid).cells hcs j c hc)
          exact ⟨cv, by simpa [Instr.loadAt, Instr.sureAddr] using p, q⟩
      · cases h
    | _ => cases h
  | row cells b o hA hc hv =>
    simp only [loadT] at h
    obtain ⟨cv, p, q⟩ := loadVar_sound (A := A) (ι := ι) (H := H) (w := w) h (b := b) (base := o) (fun j c hj => by
      obtain ⟨cv, e⟩ := hc j c hj
      exact ⟨cv, e, (hv j c cv hj e).pure fun _ h => h⟩)
    exact ⟨cv, by simpa [Instr.loadAt, Instr.sureAddr] using p, q⟩
  | lit v =>
    unfold loadT at h
    split at h
    · rename_i e; cases e
    · rename_i e; cases e
    · rename_i g e
      cases e
      simp only [Option.bind_eq_some_iff] at h
      obtain ⟨cs, hcs, hp⟩ := h
      obtain ⟨cv, p, q⟩ := loadVar_sound (A := A) (ι := ι) (H := H) (w := w) hp (b := g) (base := 0) (fun j c hj => by
        obtain ⟨cv, e, q⟩ := (hg.glob g cs hcs).2 j c hj
        exact ⟨cv, e, q.pure fun _ h => h⟩)
      exact ⟨cv, by simpa [Instr.loadAt, Instr.sureAddr] using p, q⟩
    · cases h
  | _ => simp [loadT] at h

theorem fieldAt_sound {s f : Nat} {a x : V} {ca : Value} (ha : VR A ι H w a ca) (h : fieldA P s f a = some x) :
    ∃ cv, (Instr.fieldAt s ca f).run P w = .ok cv w ∧ VR A ι H w x cv := by
  unfold fieldA at h
  simp only [Option.bind_eq_some_iff] at h
  obtain ⟨fd, h1, h2⟩ := h
  split at h2
  · cases h2
  rename_i hz
  obtain ⟨i, hi⟩ := size_info hz
  unfold fieldT at h1
  split at h1
  · rename_i fs hu
    cases ha with
    | ptr id ver r off a blk hid hf hh =>
      simp only [Option.some.injEq] at h2; subst h2
      refine ⟨.pointer (some (a.add fd.offset)), by simp [Instr.fieldAt, run_underlying hu, h1, Instr.sureAddr, fieldPlace, run_sizeT hi, hz], ?_⟩
      refine .ptr id ver r _ _ blk hid hf fun sz ver' rs e => ?_
      rcases hh sz ver' rs e with hq | ⟨hq, he⟩
      · exact .inl hq
      · exact .inr ⟨hq, by rw [he]; rw [add_none]; simp [Nat.add_assoc]⟩
    | row cells b o hA hc hv =>
      simp only [Option.some.injEq] at h2; subst h2
      refine ⟨.pointer (some ⟨b, o + fd.offset, none⟩), by simp [Instr.fieldAt, run_underlying hu, h1, Instr.sureAddr, fieldPlace, run_sizeT hi, hz, add_none], ?_⟩
      refine .row _ _ _ hA (fun j c hj => ?_) (fun j c cv hj e => ?_)
      · rw [List.getElem?_drop] at hj; obtain ⟨cv, e⟩ := hc _ _ hj; exact ⟨cv, by rw [Nat.add_assoc]; exact e⟩
      · rw [List.getElem?_drop] at hj; exact hv _ _ _ hj (by rw [← Nat.add_assoc]; exact e)
    | _ => simp at h2
  · cases h1

theorem intOf_eq {v : V} {n : Int} {cv : Value} (h : intOf v = some n) (hv : VR A ι H w v cv) : ∃ k, cv = .int k n := by
  cases hv with
  | lit _ => cases cv <;> simp [intOf] at h; subst h; exact ⟨_, rfl⟩
  | _ => simp [intOf] at h

theorem indexAt_sound {N : Nat → Prop} (hs : SR N A ι H w) {t : Nat} {x i y : V} {cx ci : Value} (hx : VR A ι H w x cx) (hi : VR A ι H w i ci) (h : indexA P H t x i = some y) :
    ∃ cv, (Instr.indexAt t cx ci).run P w = .ok cv w ∧ VR A ι H w y cv := by
  unfold indexA at h
  simp only [Option.bind_eq_some_iff] at h
  obtain ⟨n, hn, h⟩ := h
  obtain ⟨k, rfl⟩ := intOf_eq hn hi
  split at h
  · cases h
  rename_i hn0
  split at h
  · -- own
    rename_i e id ver off len hu
    split at h
    · rename_i hlt
      split at h
      · rename_i sz ver' rs hid
        split at h
        · rename_i hv
          obtain ⟨rfl, rfl, hz⟩ := hv
          obtain ⟨ki, hki⟩ := size_info hz
          simp only [Option.some.injEq] at h; subst h
          cases hx with
          | own _ _ _ _ a cap blk hid' hf hh =>
            rw [hid] at hid'; cases hid'
            rcases hh _ _ _ rfl with hh | ⟨_, h1, h2, h3, h4, _⟩
            · omega
            · have ha : a = ⟨(ι id).b, (ι id).o + off * sizeT P e, none⟩ := h4.resolve_left (by omega)
              subst ha
              have h0 : 0 ≤ n ∧ n < (len : Int) := ⟨by omega, by omega⟩
              refine ⟨.pointer (some ⟨(ι id).b, (ι id).o + off * sizeT P e + n.toNat * sizeT P e, none⟩), by simp [Instr.indexAt, asIntOf, run_underlying hu, h0, run_sizeT hki, add_none], ?_⟩
              refine .ptr id _ _ _ _ _ hid (by simp) fun s v r e' => ?_
              cases e'
              exact .inr ⟨rfl, by simp [Nat.add_mul, Nat.add_assoc]⟩
        · cases h
      · cases h
    · cases h
  · -- arr
    rename_i e rows hu
    simp only [Option.bind_eq_some_iff] at h
    obtain ⟨r, hr, h⟩ := h
    split at h
    · rename_i hl
      obtain ⟨hl, hz⟩ := hl
      obtain ⟨ki, hki⟩ := size_info hz
      simp only [Option.some.injEq] at h; subst h
      have hlt : n.toNat < rows.length := (List.getElem?_eq_some_iff.1 hr).1
      cases hx with
      | nilA => exact absurd hlt (Nat.not_lt_zero _)
      | arr _ b o cap sz hA hcap hsz' hc hv =>
        have h0 : 0 ≤ n ∧ n < (rows.length : Int) := ⟨by omega, by omega⟩
        have hz : sz = sizeT P e := (hsz' _ _ hr).symm.trans hl
        subst hz
        refine ⟨.pointer (some ⟨b, o + n.toNat * sizeT P e, none⟩), by simp [Instr.indexAt, asIntOf, run_underlying hu, h0, run_sizeT hki, add_none], ?_⟩
        exact .row _ _ _ hA (fun j c hj => hc _ j r c hr hj) (fun j c cv hj e' => hv _ j r c cv hr hj e')
    · cases h
  · -- array, ptr
    rename_i ln e id ver r off hu
    split at h
    · rename_i hlt
      obtain ⟨hlt, hz⟩ := hlt
      obtain ⟨ki, hki⟩ := size_info hz
      simp only [Option.some.injEq] at h; subst h
      cases hx with
      | ptr _ _ _ _ a blk hid hf hh =>
        have h0 : 0 ≤ n ∧ n < (ln : Int) := ⟨by omega, by omega⟩
        refine ⟨.pointer (some (a.add (n.toNat * sizeT P e))), by simp [Instr.indexAt, asIntOf, run_underlying hu, h0, run_sizeT hki, Instr.sureAddr], ?_⟩
        refine .ptr id ver r _ _ blk hid hf fun sz ver' rs e' => ?_
        rcases hh sz ver' rs e' with hq | ⟨hq, he⟩
        · exact .inl hq
        · exact .inr ⟨hq, by rw [he]; rw [add_none]; simp [Nat.add_assoc]⟩
    · cases h
  · -- array, row
    rename_i ln e cs hu
    split at h
    · rename_i hlt
      obtain ⟨hlt, hz⟩ := hlt
      obtain ⟨ki, hki⟩ := size_info hz
      simp only [Option.some.injEq] at h; subst h
      cases hx with
      | row _ b o hA hc hv =>
        have h0 : 0 ≤ n ∧ n < (ln : Int) := ⟨by omega, by omega⟩
        refine ⟨.pointer (some ⟨b, o + n.toNat * sizeT P e, none⟩), by simp [Instr.indexAt, asIntOf, run_underlying hu, h0, run_sizeT hki, Instr.sureAddr, add_none], ?_⟩
        refine .row _ _ _ hA (fun j c hj => ?_) (fun j c cv hj e' => ?_)
        · rw [List.getElem?_drop] at hj; obtain ⟨cv, e'⟩ := hc _ _ hj; exact ⟨cv, by rw [Nat.add_assoc]; exact e'⟩
        · rw [List.getElem?_drop] at hj; exact hv _ _ _ hj (by rw [← Nat.add_assoc]; exact e')
    · cases h
  · cases h
end
end Go.Proofs.YtpmdlaojndejfaaGreatDoor.E
