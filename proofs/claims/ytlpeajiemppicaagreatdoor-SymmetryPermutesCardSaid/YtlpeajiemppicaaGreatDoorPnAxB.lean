/- The abstract operations: each mirrors the model's own, on abstract values; 'none': not taken. -/
import Derived.Test.YtlpeajiemppicaaGreatDoorPnAxA
namespace Go.Ax
set_option linter.unusedVariables false

/-! ### types -/
def szT (P : Program) (t : TypeId) : Option Nat := (P.info? t).map (·.size)
def byT (P : Program) (t : TypeId) : Option Nat := (P.info? t).map (·.bytes)
def isAggT (P : Program) (t : TypeId) : Option Bool :=
  match P.underlying t with
  | some (.struct _) | some (.array ..) => some true
  | some _ => some false
  | none => none
def zeroT (P : Program) (t : TypeId) : Option AVal :=
  match (P.info? t).bind (·.zero) with
  | some z => ofVal 4 z
  | none => none

/-! ### memory -/
def newRow (b : Id) (data : Bool) (cells : List AVal) (st : St) : St :=
  { st with clock := st.clock + 1, heap := upI b (.row st.clock st.clock cells.length data cells) st.heap }

def rowId (pol : Pol) (cx : Cx) (dst : Nat) (st : St) : Id × St :=
  cond (pol.fresh cx.fn dst) (.r (1000000 + st.rnext), { st with rnext := st.rnext + 1 }) (.r (cx.fn * 1000 + dst), st)

/-- What is laid into a row of data is frozen, where it can be. -/
def frzData (pol : Pol) (cx : Cx) (cells : List AVal) (st : St) : List AVal × St :=
  cond (pol.keep cx.fn || allPure cells) (cells, st)
    (match frzL false st.heap cells [] with
     | some (cs, ids) => (cs, { st with heap := kill ids st.heap })
     | none => (cells, st))

def aloadCells (st : St) (n : Nat) : AVal → Option (List AVal)
  | .ptr b inc ver off => rowAt st.heap b inc ver off n
  | .fptr _ cells => cond (Nat.ble n cells.length) (some (cells.take n)) none
  | _ => none

def aload (P : Program) (t : TypeId) (a : AVal) (st : St) : Option AVal :=
  match isAggT P t with
  | some true => match szT P t with
    | some n => (aloadCells st n a).map .agg
    | none => none
  | some false => match aloadCells st 1 a with
    | some [x] => some x
    | _ => none
  | none => none

def setAt (cells : List AVal) (off : Nat) (vs : List AVal) : List AVal := cells.take off ++ vs ++ cells.drop (off + vs.length)

/-- Stores cells at a place of an owned row (its newest version alone). -/
def putCells (b : Id) (inc ver off : Nat) (vs : List AVal) (st : St) : Option St :=
  match lkI b st.heap with
  | some (.row inc' cur low data cells) =>
    cond (inc' == inc && ver == cur && Nat.ble (off + vs.length) cells.length)
      (some { st with heap := upI b (.row inc' cur (cond (cur == inc') low (Nat.min low off)) data (setAt cells off vs)) st.heap }) none
  | _ => none

def isData (h : Heap) (b : Id) : Bool :=
  match lkI b h with
  | some (.row _ _ _ d _) => d
  | _ => false

def astore (pol : Pol) (cx : Cx) (P : Program) (t : TypeId) (a v : AVal) (st : St) : Option St :=
  match szT P t, a with
  | some n, .ptr b inc ver off =>
    cond (v.cellsOf.length == n && v.cellsOf.all AVal.one)
      (cond (isData st.heap b)
        (match frzData pol cx v.cellsOf st with
         | (vs, st) => putCells b inc ver off vs st)
        (putCells b inc ver off v.cellsOf st)) none
  | _, _ => none

/-! ### structs and arrays as values -/
def apart (P : Program) (t : TypeId) (cs : List AVal) (off : Nat) : Option AVal :=
  match isAggT P t with
  | some true => match szT P t with
    | some n => cond (Nat.ble (off + n) cs.length) (some (.agg ((cs.drop off).take n))) none
    | none => none
  | some false => cs[off]?
  | none => none

def afill (place : Nat → Option (Nat × Nat)) : List AVal → List (Nat × AVal) → Option (List AVal)
  | cells, [] => some cells
  | cells, (i, v) :: r => match place i with
    | none => none
    | some (off, size) => cond (v.cellsOf.length == size && Nat.ble (off + size) cells.length) (afill place (setAt cells off v.cellsOf) r) none

def zeroRow (zs : List AVal) (n : Nat) : List AVal := (List.range n).map fun i => zs.getD (i % zs.length) .undef

def evParts (pol : Pol) (env : Env) : List (Nat × Operand) → Option (List (Nat × AVal))
  | [] => some []
  | (i, x) :: r => match aev pol env x with
    | none => none
    | some v => match evParts pol env r with
      | none => none
      | some vs => some ((i, v) :: vs)

def evL (pol : Pol) (env : Env) : List Operand → Option (List AVal)
  | [] => some []
  | x :: r => match aev pol env x with
    | none => none
    | some v => match evL pol env r with
      | none => none
      | some vs => some (v :: vs)

def fieldPl (P : Program) (fields : Array Field) (i : Nat) : Option (Nat × Nat) :=
  match fields[i]? with
  | some f => match szT P f.type with
    | some n => some (f.offset, n)
    | none => none
  | none => none

def abuild (P : Program) (t : TypeId) (parts : List (Nat × AVal)) : Option AVal :=
  match zeroT P t, P.underlying t with
  | some z, some (.struct fields) => cond (fields.all fun f => (szT P f.type).isSome) ((afill (fieldPl P fields) z.cellsOf parts).map .agg) none
  | some z, some (.array _ elem) => match szT P elem with
    | some n => (afill (fun i => some (i * n, n)) z.cellsOf parts).map .agg
    | none => none
  | _, _ => none

/-! ### arithmetic and comparison -/
def abinInt (op : BinOp) (k : IntKind) (a b : Int) : Option AVal :=
  match op with
  | .add => some (.int k (k.wrap (a + b)))
  | .sub => some (.int k (k.wrap (a - b)))
  | .mul => some (.int k (k.wrap (a * b)))
  | .quo => cond (b == 0) none (some (.int k (k.wrap (a.tdiv b))))
  | .rem => cond (b == 0) none (some (.int k (a.tmod b)))
  | .and => some (.int k (k.wrap (BitVec.ofInt k.bits a &&& BitVec.ofInt k.bits b).toNat))
  | .or => some (.int k (k.wrap (BitVec.ofInt k.bits a ||| BitVec.ofInt k.bits b).toNat))
  | .xor => some (.int k (k.wrap (BitVec.ofInt k.bits a ^^^ BitVec.ofInt k.bits b).toNat))
  | .andNot => some (.int k (k.wrap (BitVec.ofInt k.bits a &&& ~~~(BitVec.ofInt k.bits b)).toNat))
  | .eql => some (.bool (a == b))
  | .neq => some (.bool (a != b))
  | .lss => some (.bool (a < b))
  | .leq => some (.bool (a ≤ b))
  | .gtr => some (.bool (a > b))
  | .geq => some (.bool (a ≥ b))
  | _ => none

def ashift (op : BinOp) (k : IntKind) (x y : Int) : Option AVal :=
  cond (decide (y < 0)) none
    (match op with
     | .shl => some (.int k (k.wrap (x * 2 ^ (min y.toNat k.bits))))
     | .shr => some (.int k (x.fdiv (2 ^ (min y.toNat k.bits))))
     | _ => none)

def natsEq : List Nat → List Nat → Bool
  | [], [] => true
  | a :: x, b :: y => cond (a == b) (natsEq x y) false
  | _, _ => false

def natsLess : List Nat → List Nat → Bool
  | _, [] => false
  | [], _ :: _ => true
  | a :: x, b :: y => Nat.blt a b || (a == b && natsLess x y)

def abinStr (op : BinOp) (x y : List Nat) : Option AVal :=
  match op with
  | .add => cond (Nat.ble (x.length + y.length) 9223372036854775807) (some (.str (x ++ y))) none
  | .eql => some (.bool (natsEq x y))
  | .neq => some (.bool !(natsEq x y))
  | .lss => some (.bool (natsLess x y))
  | .leq => some (.bool (natsLess x y || natsEq x y))
  | .gtr => some (.bool !(natsLess x y || natsEq x y))
  | .geq => some (.bool !(natsLess x y))
  | _ => none

def aeqFields (f : TypeId → AVal → AVal → Option Bool) (P : Program) (xs ys : List AVal) : List Field → Option Bool
  | [] => some true
  | fd :: r => cond (fd.name == "_") (aeqFields f P xs ys r)
    (match apart P fd.type xs fd.offset, apart P fd.type ys fd.offset with
     | some a, some b => match f fd.type a b with
       | some true => aeqFields f P xs ys r
       | some false => some false
       | none => none
     | _, _ => none)

def aeqElems (f : AVal → AVal → Option Bool) (P : Program) (elem : TypeId) (n : Nat) (xs ys : List AVal) : List Nat → Option Bool
  | [] => some true
  | i :: r =>
    match apart P elem xs (i * n), apart P elem ys (i * n) with
    | some a, some b => match f a b with
      | some true => aeqElems f P elem n xs ys r
      | some false => some false
      | none => none
    | _, _ => none

def aeq (P : Program) : Nat → TypeId → AVal → AVal → Option Bool
  | 0, _, _, _ => none
  | d + 1, t, x, y =>
    match P.underlying t, x, y with
    | some .bool, .bool a, .bool b => some (a == b)
    | some (.int _), .int k a, .int k' b => cond (k == k') (some (a == b)) none
    | some .string, .str a, .str b => some (natsEq a b)
    | some (.pointer _), .nilptr, .nilptr => some true
    | some (.pointer _), .nilptr, .ptr .. => some false
    | some (.pointer _), .ptr .., .nilptr => some false
    | some (.interface _), .nilif, .nilif => some true
    | some (.interface _), .nilif, .iface .. => some false
    | some (.interface _), .iface .., .nilif => some false
    | some (.interface _), .iface tx vx, .iface ty vy =>
      cond (tx == ty) (match P.info? tx with
        | some i => cond i.comparable (aeq P d tx vx vy) none
        | none => none) (some false)
    | some (.struct fields), .agg xs, .agg ys => cond (P.stoodInHeld t) none (aeqFields (aeq P d) P xs ys fields.toList)
    | some (.array len elem), .agg xs, .agg ys => match szT P elem with
      | some n => aeqElems (aeq P d elem) P elem n xs ys (List.range len)
      | none => none
    | some (.func ..), .nilfunc, .nilfunc => some true
    | some (.func ..), .nilfunc, .func .. => some false
    | some (.func ..), .func .., .nilfunc => some false
    | _, _, _ => none

def isConstOp : Operand → Bool
  | .const _ => true
  | _ => false

def isNilSl : Operand → Bool
  | .const (.slice none 0 0) => true
  | _ => false

/-- A slice that is not nil, held against nil. -/
def nilTest (P : Program) (t : TypeId) (yo : Operand) (c r : Bool) : Option AVal :=
  match P.underlying t with
  | some (.slice _) => cond (isNilSl yo && c) (some (.bool r)) none
  | _ => none

def abin (P : Program) (op : BinOp) (t : TypeId) (xo yo : Operand) (x y : AVal) : Option AVal :=
  match op, x, y with
  | .shl, .int k a, .int _ b => ashift .shl k a b
  | .shr, .int k a, .int _ b => ashift .shr k a b
  | op, .int k a, .int k' b => cond (k == k') (abinInt op k a b) none
  | op, .str a, .str b => abinStr op a b
  | .eql, .nilif, .nilif => cond (isConstOp xo || isConstOp yo) ((aeq P 1 t .nilif .nilif).map .bool) none
  | .neq, .nilif, .nilif => cond (isConstOp xo || isConstOp yo) ((aeq P 1 t .nilif .nilif).map fun b => .bool !b) none
  | .eql, .fsl _ _ len _, .fsl .. => nilTest P t yo (Nat.blt 0 len) false
  | .neq, .fsl _ _ len _, .fsl .. => nilTest P t yo (Nat.blt 0 len) true
  | .eql, .sl .., .fsl .. => nilTest P t yo true false
  | .neq, .sl .., .fsl .. => nilTest P t yo true true
  | .eql, .agg xs, .agg ys => cond (P.eqGuardType P.depth t) none ((aeq P 12 t (.agg xs) (.agg ys)).map .bool)
  | .neq, .agg xs, .agg ys => cond (P.eqGuardType P.depth t) none ((aeq P 12 t (.agg xs) (.agg ys)).map fun b => .bool !b)
  | .eql, x, y => (aeq P 12 t x y).map .bool
  | .neq, x, y => (aeq P 12 t x y).map fun b => .bool !b
  | _, _, _ => none

def aun (op : UnOp) (x : AVal) : Option AVal :=
  match op, x with
  | .neg, .int k n => abinInt .sub k 0 n
  | .xor, .int k n => abinInt .xor k (if k.signed then -1 else k.max) n
  | .not, .bool b => some (.bool !b)
  | _, _ => none

/-! ### addresses, fields, indexes, slices -/
def afieldAddr (P : Program) (s : TypeId) (a : AVal) (f : Nat) : Option AVal :=
  match P.underlying s with
  | some (.struct fields) => match fields[f]? with
    | some fd => match szT P fd.type with
      | some (n + 1) => match a with
        | .ptr b inc ver off => some (.ptr b inc ver (off + fd.offset))
        | .fptr tn cells => some (.fptr tn (cells.drop fd.offset))
        | _ => none
      | _ => none
    | none => none
  | _ => none

def afield (P : Program) (t : TypeId) (x : AVal) (f : Nat) : Option AVal :=
  match P.underlying t, x with
  | some (.struct fields), .agg cs => match fields[f]? with
    | some fd => apart P fd.type cs fd.offset
    | none => none
  | _, _ => none

def aindexAddr (P : Program) (t : TypeId) (x ix : AVal) : Option AVal :=
  match ix with
  | .int _ i =>
    match P.underlying t, x with
    | some (.array len elem), .ptr b inc ver off => match szT P elem with
      | some n => cond (decide (0 ≤ i) && decide (i < len)) (some (.ptr b inc ver (off + i.toNat * n))) none
      | none => none
    | some (.array len elem), .fptr tn cells => match szT P elem with
      | some n => cond (decide (0 ≤ i) && decide (i < len)) (some (.fptr tn (cells.drop (i.toNat * n)))) none
      | none => none
    | some (.slice elem), .sl _ b inc ver off len sz => match szT P elem with
      | some n => cond (n == sz && decide (0 ≤ i) && decide (i < len)) (some (.ptr b inc ver (off + i.toNat * n))) none
      | none => none
    | some (.slice elem), .fsl tn _ len cells => match szT P elem with
      | some n => cond (decide (0 ≤ i) && decide (i < len)) (some (.fptr tn (cells.drop (i.toNat * n)))) none
      | none => none
    | _, _ => none
  | _ => none

def aindex (P : Program) (t : TypeId) (x ix : AVal) : Option AVal :=
  match ix with
  | .int _ i =>
    match P.underlying t, x with
    | some (.array len elem), .agg cs => match szT P elem with
      | some n => cond (decide (0 ≤ i) && decide (i < len)) (apart P elem cs (i.toNat * n)) none
      | none => none
    | some .string, .str s => cond (decide (0 ≤ i)) (s[i.toNat]?.map fun (b : Nat) => .int .u8 (Int.ofNat b)) none
    | _, _ => none
  | _ => none

/-- An operand's bound, if there is one: at most y. -/
def abound (y : Nat) : AVal → Option Nat
  | .int _ i => cond (decide (0 ≤ i) && decide (i ≤ y)) (some i.toNat) none
  | _ => none

def aboundO (y dflt : Nat) : Option AVal → Option Nat
  | none => some dflt
  | some v => abound y v

/-- lo, hi and (where there is a max) the capacity of a slice expression over something of length len. -/
def abounds (len : Nat) (lo hi mx : Option AVal) : Option (Nat × Nat × Option Nat) :=
  match mx with
  | some m => match hi with
    | none => none
    | some h => match abound len m with
      | none => none
      | some m => match abound m h with
        | none => none
        | some h => match aboundO h 0 lo with
          | none => none
          | some l => some (l, h, some m)
  | none => match aboundO len len hi with
    | none => none
    | some h => match aboundO h 0 lo with
      | none => none
      | some l => some (l, h, none)

/-- Whether a slice expression's capacity is its length. -/
def capx (m : Option Nat) (d : Bool) (h : Nat) : Bool :=
  match m with
  | some k => k == h
  | none => d

def aslice (P : Program) (st : St) (t : TypeId) (x : AVal) (lo hi mx : Option AVal) : Option AVal :=
  match P.underlying t, x with
  | some .string, .str s => match mx, abounds s.length lo hi none with
    | none, some (l, h, _) => some (.str ((s.drop l).take (h - l)))
    | _, _ => none
  | some (.slice elem), .fsl tn cx len cells => match szT P elem, abounds len lo hi mx with
    | some n, some (l, h, m) => some (.fsl tn (capx m (cx && h == len) h) (h - l) ((cells.drop (l * n)).take ((h - l) * n)))
    | _, _ => none
  | some (.slice elem), .sl cx b inc ver off len sz => match szT P elem, abounds len lo hi mx with
    | some n, some (l, h, m) =>
      cond (n == sz)
        (cond (l == h && !(l == 0)) (some (.fsl false (capx m (cx && h == len) h) 0 []))
          (some (.sl (capx m (cx && h == len) h) b inc ver (off + l * n) (h - l) sz))) none
    | _, _ => none
  | some (.array len elem), .ptr b inc ver off => match szT P elem, abounds len lo hi mx with
    | some n, some (l, h, m) => match rowAt st.heap b inc ver off (len * n) with
      | some (_ :: _) =>
        cond (l == h && !(l == 0)) (some (.fsl false false 0 []))
          (some (.sl (capx m (h == len) h) b inc ver (off + l * n) (h - l) n))
      | _ => none
    | _, _ => none
  | _, _ => none

def aextract (t : AVal) (i : Nat) : Option AVal :=
  match t with
  | .tuple vs => vs[i]?
  | _ => none

/-! ### make, append, copy -/
def amakeSlice (pol : Pol) (cx : Cx) (P : Program) (dst : Nat) (t : TypeId) (len cap : AVal) (st : St) : Option (AVal × St) :=
  match P.underlying t, len, cap with
  | some (.slice elem), .int _ l, .int _ c => match P.info? elem with
    | some i => match zeroT P elem with
      | some z =>
        cond (decide (0 ≤ l) && decide (l ≤ c) && decide (c ≤ 281474976710656) && decide (i.bytes * c ≤ 281474976710656) && z.cellsOf.length == i.size && z.cellsOf.all AVal.one)
          (match rowId pol cx dst st with
           | (b, st) => some (.sl (l == c) b st.clock st.clock 0 l.toNat i.size, newRow b true (zeroRow z.cellsOf (l.toNat * i.size)) st)) none
      | none => none
    | none => none
  | _, _, _ => none

def abuildSlice (pol : Pol) (cx : Cx) (P : Program) (dst : Nat) (t : TypeId) (len : Nat) (parts : List (Nat × AVal)) (st : St) : Option (AVal × St) :=
  match P.underlying t with
  | some (.slice elem) => match szT P elem, zeroT P elem with
    | some n, some z =>
      cond (Nat.ble (len * n) 16777216 && z.cellsOf.length == n)
        (match afill (fun i => some (i * n, n)) (zeroRow z.cellsOf (len * n)) parts with
         | none => none
         | some cells => cond (cells.all AVal.one)
           (match frzData pol cx cells st with
            | (cells, st) => match rowId pol cx dst st with
              | (b, st) => some (.sl true b st.clock st.clock 0 len n, newRow b true cells st)) none) none
    | _, _ => none
  | _ => none

/-- The cells of what is appended or copied: at most n elements of it. -/
def asource (st : St) (sz : Nat) : AVal → Option (Nat × List AVal)
  | .sl _ b inc ver off len sz' => cond (sz' == sz) ((rowAt st.heap b inc ver off (len * sz)).map fun cs => (len, cs)) none
  | .fsl _ _ len cells => cond (cells.length == len * sz) (some (len, cells)) none
  | .str s => cond (sz == 1) (some (s.length, s.map fun (b : Nat) => .int .u8 (Int.ofNat b))) none
  | _ => none

def isSlice : AVal → Bool
  | .sl .. | .fsl .. => true
  | _ => false

def isIntT : TypeDesc → Bool
  | .int _ => true
  | _ => false

/-- The cells 'new' (n elements) behind a slice. -/
def aappendTo (pol : Pol) (cx : Cx) (dst : Nat) (i : TypeInfo) (n : Nat) (new : List AVal) (s : AVal) (st : St) : Option (AVal × St) :=
  match s with
  | .sl true b inc ver off len sz => cond (sz == i.size && decide ((len + n) * i.bytes ≤ 140737488355328) && decide (len + n ≤ 140737488355328))
      (match rowAt st.heap b inc ver off (len * sz) with
       | some old => match rowId pol cx dst st with
         | (b', st) => some (.sl false b' st.clock st.clock 0 (len + n) sz, newRow b' true (old ++ new) st)
       | none => none) none
  | .fsl _ true len cells => cond (cells.length == len * i.size && decide ((len + n) * i.bytes ≤ 140737488355328) && decide (len + n ≤ 140737488355328))
      (match rowId pol cx dst st with
       | (b', st) => some (.sl false b' st.clock st.clock 0 (len + n) i.size, newRow b' true (cells ++ new) st)) none
  | .sl false b inc ver 0 len sz => cond (sz == i.size && decide ((len + n) * i.bytes ≤ 140737488355328) && decide (len + n ≤ 140737488355328))
      (match rowAt st.heap b inc ver 0 (len * sz), lkI b st.heap with
       | some old, some (.row inc' cur low data _) =>
         some (.sl false b inc st.clock 0 (len + n) sz,
           { st with clock := st.clock + 1, heap := upI b (.row inc' st.clock (Nat.min low (len * sz)) data (old ++ new)) st.heap })
       | _, _ => none) none
  | _ => none

def aappend1 (pol : Pol) (cx : Cx) (P : Program) (dst : Nat) (elem : TypeId) (s x : AVal) (st : St) : Option (AVal × St) :=
  match P.info? elem, zeroT P elem with
  | some i, some z => cond (z.cellsOf.length == i.size) (match asource st i.size x with
    | none => none
    | some (n, new) => cond (new.all AVal.one)
      (cond (n == 0) (cond (isSlice s) (some (s, st)) none)
        (match frzData pol cx new st with
         | (new, st) => aappendTo pol cx dst i n new s st)) none) none
  | _, _ => none

def aappend (pol : Pol) (cx : Cx) (P : Program) (dst : Nat) (sT xT : TypeId) (s x : AVal) (st : St) : Option (AVal × St) :=
  match P.underlying sT, P.underlying xT with
  | some (.slice elem), some xd => cond (isIntT xd) none (aappend1 pol cx P dst elem s x st)
  | _, _ => none

def acopy (pol : Pol) (cx : Cx) (P : Program) (dT : TypeId) (d x : AVal) (st : St) : Option (AVal × St) :=
  match P.underlying dT with
  | some (.slice elem) => match szT P elem with
    | none => none
    | some sz => match d, asource st sz x with
      | .sl _ b inc ver off len sz', some (n, cells) =>
        cond (sz' == sz && cells.all AVal.one)
          (match frzData pol cx (cells.take ((Nat.min n len) * sz)) st with
           | (vs, st) => match putCells b inc ver off vs st with
             | some st => some (.int .i64 (Nat.min n len : Nat), st)
             | none => none) none
      | .fsl _ _ 0 _, some _ => some (.int .i64 0, st)
      | _, _ => none
  | _ => none

/-- clear of a slice -/
def aclear (P : Program) (t : TypeId) (x : AVal) (st : St) : Option St :=
  match P.underlying t, x with
  | some (.slice elem), .sl _ b inc ver off len sz => match szT P elem, zeroT P elem with
    | some n, some z => cond (n == sz && z.cellsOf.length == n && z.cellsOf.all AVal.one && Nat.blt 0 n)
      (cond (len == 0) (some st) (putCells b inc ver off (zeroRow z.cellsOf (len * n)) st)) none
    | _, _ => none
  | some (.slice _), .fsl _ _ 0 _ => some st
  | _, _ => none

/-! ### lists of ints sorted -/
def insI (x : Int) : List Int → List Int
  | [] => [x]
  | y :: r => cond (decide (x ≤ y)) (x :: y :: r) (y :: insI x r)

def isort : List Int → List Int
  | [] => []
  | x :: r => insI x (isort r)

def intsOf : List AVal → Option (List Int)
  | [] => some []
  | .int .i64 n :: r => match intsOf r with
    | some l => some (n :: l)
    | none => none
  | _ => none

/-- What a function that sorts a list of ints in place does to the state. -/
def asort (st : St) : List AVal → Option St
  | [.sl _ b inc ver off len sz] => cond (len == 0) (some st) (cond (sz == 1 && Nat.blt len 4611686018427387904)
    (match rowAt st.heap b inc ver off len with
     | some cells => match intsOf cells with
       | some zs => putCells b inc ver off ((isort zs).map (.int .i64)) st
       | none => none
     | none => none) none)
  | [.fsl _ _ 0 _] => some st
  | _ => none

/-! ### maps -/
def keyEq : AVal → AVal → Option Bool
  | .int k a, .int k' b => cond (k == k') (some (a == b)) none
  | .str a, .str b => some (natsEq a b)
  | .bool a, .bool b => some (a == b)
  | _, _ => none

def plainKey (P : Program) (t : TypeId) : AVal → Bool
  | .int k _ => match P.underlying t with | some (.int _) => true | _ => false
  | .str _ => match P.underlying t with | some .string => true | _ => false
  | .bool _ => match P.underlying t with | some .bool => true | _ => false
  | _ => false

def afind (k : AVal) : List (AVal × AVal) → Option (Option AVal)
  | [] => some none
  | (k', v) :: r => match keyEq k k' with
    | some true => some (some v)
    | some false => afind k r
    | none => none

def aput (k v : AVal) : List (AVal × AVal) → List (AVal × AVal)
  | [] => [(k, v)]
  | (k', v') :: r => cond ((keyEq k k').getD false) ((k, v) :: r) ((k', v') :: aput k v r)

def alookup (P : Program) (t : TypeId) (x k : AVal) (ok : Bool) (st : St) : Option AVal :=
  match P.underlying t with
  | some (.map kt et) => cond (plainKey P kt k)
    (match (match x with
        | .nilmap => some []
        | .map b inc => match lkI b st.heap with
          | some (.map inc' es) => cond (inc' == inc) (some es) none
          | _ => none
        | _ => none) with
     | none => none
     | some es => match afind k es with
       | none => none
       | some (some v) => some (cond ok (.tuple [v, .bool true]) v)
       | some none => match zeroT P et with
         | none => none
         | some z => some (cond ok (.tuple [z, .bool false]) z)) none
  | _ => none

def amapUpdate (pol : Pol) (cx : Cx) (P : Program) (t : TypeId) (m k v : AVal) (st : St) : Option St :=
  match P.underlying t with
  | some (.map kt _) => cond (plainKey P kt k)
    (match frzData pol cx [v] st with
     | ([v], st) => match m with
       | .map b inc => match lkI b st.heap with
         | some (.map inc' es) => cond (inc' == inc && (afind k es).isSome) (some { st with heap := upI b (.map inc' (aput k v es)) st.heap }) none
         | _ => none
       | _ => none
     | _ => none) none
  | _ => none

/-! ### strings, interfaces, methods -/
def decodeL (s : List Nat) (i : Nat) : Nat × Nat :=
  let at' (k : Nat) : Nat := s.getD (i + k) 0
  let cont (k : Nat) : Bool := Nat.blt (i + k) s.length && at' k / 64 == 2
  let b0 := at' 0
  if b0 < 0x80 then (b0, 1)
  else if b0 / 32 == 6 && cont 1 then
    let c := (b0 % 32) * 64 + at' 1 % 64
    if c ≥ 0x80 then (c, 2) else (Utf8.runeError, 1)
  else if b0 / 16 == 14 && cont 1 && cont 2 then
    let c := (b0 % 16) * 4096 + (at' 1 % 64) * 64 + at' 2 % 64
    if c ≥ 0x800 && Utf8.valid c then (c, 3) else (Utf8.runeError, 1)
  else if b0 / 8 == 30 && cont 1 && cont 2 && cont 3 then
    let c := (b0 % 8) * 262144 + (at' 1 % 64) * 4096 + (at' 2 % 64) * 64 + at' 3 % 64
    if c ≥ 0x10000 && Utf8.valid c then (c, 4) else (Utf8.runeError, 1)
  else (Utf8.runeError, 1)

def anext (it : AVal) (st : St) : Option (AVal × St) :=
  match it with
  | .iter b inc => match lkI b st.heap with
    | some (.iter inc' s pos) => cond (inc' == inc)
      (cond (Nat.blt pos s.length)
        (match decodeL s pos with
         | (c, w) => some (.tuple [.bool true, .int .i64 pos, .int .i32 c], { st with heap := upI b (.iter inc' s (pos + w)) st.heap }))
        (some (.tuple [.bool false], st))) none
    | _ => none
  | _ => none

def atypeAssert (P : Program) (x : AVal) (asserted : TypeId) (ok : Bool) : Option AVal :=
  match P.underlying asserted, x with
  | some (.interface want), .iface t v => match P.info? t with
    | some i => match Instr.missingMethod want i.methods with
      | none => some (cond ok (.tuple [.iface t v, .bool true]) (.iface t v))
      | some _ => cond ok ((zeroT P asserted).map fun z => .tuple [z, .bool false]) none
    | none => none
  | some (.interface _), .nilif => cond ok ((zeroT P asserted).map fun z => .tuple [z, .bool false]) none
  | some _, .iface t v => cond (t == asserted) (some (cond ok (.tuple [v, .bool true]) v)) (cond ok ((zeroT P asserted).map fun z => .tuple [z, .bool false]) none)
  | some _, .nilif => cond ok ((zeroT P asserted).map fun z => .tuple [z, .bool false]) none
  | none, _ => none
  | _, _ => none

inductive APlace where
  | val (v : AVal)
  | var (a : AVal)

def APlace.get (P : Program) (t : TypeId) (st : St) : APlace → Option AVal
  | .val v => some v
  | .var a => aload P t a st

def afollow (P : Program) (st : St) : List FieldStep → TypeId → APlace → Option (TypeId × APlace)
  | [], t, x => some (t, x)
  | s :: rest, t, x => match P.underlying s.struct with
    | some (.struct fields) => match fields[s.index]? with
      | none => none
      | some f => cond s.deref
        (match x.get P t st with
         | some (.ptr b inc ver off) => match afieldAddr P s.struct (.ptr b inc ver off) s.index with
           | some a => afollow P st rest f.type (.var a)
           | none => none
         | _ => none)
        (match x with
         | .var a => match a with
           | .ptr b inc ver off => match afieldAddr P s.struct (.ptr b inc ver off) s.index with
             | some a => afollow P st rest f.type (.var a)
             | none => none
           | _ => none
         | .val (.agg cs) => match apart P f.type cs f.offset with
           | some v => afollow P st rest f.type (.val v)
           | none => none
         | .val _ => none)
    | _ => none

def areceiver (P : Program) (st : St) (xt : TypeId) (x : APlace) (pr : Bool) : Option AVal :=
  match P.underlying xt, pr, x with
  | some (.pointer _), true, x => x.get P xt st
  | some (.pointer elem), false, x => match x.get P xt st with
    | some (.ptr b inc ver off) => aload P elem (.ptr b inc ver off) st
    | _ => none
  | some _, true, .var a => some a
  | some _, false, x => x.get P xt st
  | _, _, _ => none

def amethod (P : Program) (st : St) (t : TypeId) (v : AVal) (name : String) : Option (FuncId × AVal) :=
  match P.info? t with
  | none => none
  | some i => match i.methods.find? (·.name == name) with
    | none => none
    | some m => match afollow P st m.path.toList t (.val v) with
      | none => none
      | some (xt, x) => match m.func with
        | none => none
        | some (f, pr) => match areceiver P st xt x pr with
          | some r => some (f, r)
          | none => none

end Go.Ax
