/- An abstract, tape-free interpreter for the model's code: values, state, operations, control. Plain definitions; nothing here is trusted: PnAxS* prove it sound. -/
import Derived.RangeFuncLeaves
import Derived.OrdersIn
namespace Go.Ax
set_option linter.unusedVariables false

inductive Id where
  | v (n : Nat)
  | r (n : Nat)
  deriving DecidableEq

def Id.eq : Id → Id → Bool
  | .v a, .v b => a == b
  | .r a, .r b => a == b
  | _, _ => false

/-- Abstract values. 'fsl': a slice whose cells are known and are not ours to write ('frozen'); cx: its capacity is its length. 'sl': a slice of an owned row. -/
inductive AVal where
  | bool (b : Bool)
  | int (k : IntKind) (n : Int)
  | str (s : List Nat)
  | nilptr | nilfunc | nilif | nilmap
  | fsl (tn cx : Bool) (len : Nat) (cells : List AVal)
  | sl (cx : Bool) (b : Id) (inc ver off len sz : Nat)
  | ptr (b : Id) (inc ver off : Nat)
  | fptr (tn : Bool) (cells : List AVal)
  | map (b : Id) (inc : Nat)
  | iter (b : Id) (inc : Nat)
  | yld (b : Id) (inc : Nat)
  | func (fn : Fn) (first captured : List AVal)
  | iface (t : TypeId) (v : AVal)
  | agg (cells : List AVal)
  | tuple (vs : List AVal)

def AVal.undef : AVal := .tuple []

abbrev Env := List (Nat × AVal)

inductive ABlk where
  | row (inc cur low : Nat) (data : Bool) (cells : List AVal)
  | map (inc : Nat) (es : List (AVal × AVal))
  | iter (inc : Nat) (s : List Nat) (pos : Nat)
  | loop (inc : Nat) (state : LoopState) (pending : Option Code) (fn : FuncId) (base nt : Nat) (env : Env) (params : List Tmp) (assign body : Code)

def ABlk.inc : ABlk → Nat
  | .row i .. | .map i .. | .iter i .. | .loop i .. => i

abbrev Heap := List (Id × ABlk)

structure St where
  clock : Nat
  next : Nat
  rnext : Nat
  heap : Heap

def St.init : St := ⟨0, 0, 0, []⟩

/-! ### finite maps -/
def lk {α : Type} (k : Nat) : List (Nat × α) → Option α
  | [] => none
  | p :: r => cond (p.1 == k) (some p.2) (lk k r)

def has {α : Type} (k : Nat) : List (Nat × α) → Bool
  | [] => false
  | p :: r => cond (p.1 == k) true (has k r)

def rep {α : Type} (k : Nat) (v : α) : List (Nat × α) → List (Nat × α)
  | [] => []
  | p :: r => cond (p.1 == k) ((k, v) :: r) (p :: rep k v r)

def up {α : Type} (k : Nat) (v : α) (l : List (Nat × α)) : List (Nat × α) := cond (has k l) (rep k v l) ((k, v) :: l)

def lkI (k : Id) : Heap → Option ABlk
  | [] => none
  | p :: r => cond (p.1.eq k) (some p.2) (lkI k r)

def hasI (k : Id) : Heap → Bool
  | [] => false
  | p :: r => cond (p.1.eq k) true (hasI k r)

def repI (k : Id) (v : ABlk) : Heap → Heap
  | [] => []
  | p :: r => cond (p.1.eq k) ((k, v) :: r) (p :: repI k v r)

def upI (k : Id) (v : ABlk) (l : Heap) : Heap := cond (hasI k l) (repI k v l) ((k, v) :: l)

def erI (k : Id) : Heap → Heap
  | [] => []
  | p :: r => cond (p.1.eq k) (erI k r) (p :: erI k r)

/-- drops the variables of the frames from a base on -/
def dropV (base : Nat) : Heap → Heap
  | [] => []
  | p :: r => match p.1 with
    | .v n => cond (Nat.ble base n) (dropV base r) (p :: dropV base r)
    | .r _ => p :: dropV base r

/-! ### parameters -/
structure Pol where
  shared : FuncId → Bool
  esc : FuncId → Bool
  keep : FuncId → Bool
  fresh : FuncId → Tmp → Bool
  glob : Nat → Option (List AVal)
  sorts : FuncId → Bool := fun _ => false

structure Cx where
  fn : FuncId
  base : Nat
  nt : Nat
  round : Option (Id × Nat)

/-! ### constants of the code -/
def mapO {α β : Type} (f : α → Option β) : List α → Option (List β)
  | [] => some []
  | a :: r => match f a with
    | none => none
    | some b => match mapO f r with
      | none => none
      | some s => some (b :: s)

def ofVal : Nat → Value → Option AVal
  | 0, _ => none
  | n + 1, v => match v with
    | .bool b => some (.bool b)
    | .int k i => some (.int k i)
    | .string s => some (.str (s.data.toList.map UInt8.toNat))
    | .pointer none => some .nilptr
    | .nilFunc => some .nilfunc
    | .nilIface => some .nilif
    | .map none => some .nilmap
    | .slice none 0 0 => some (.fsl false true 0 [])
    | .agg cs => (mapO (ofVal n) cs.toList).map .agg
    | .tuple cs => (mapO (ofVal n) cs.toList).map .tuple
    | .iface t v => (ofVal n v).map (.iface t)
    | .func (.func f) first captured => cond (first.isEmpty && captured.isEmpty) (some (.func (.func f) [] [])) none
    | _ => none

def aev (pol : Pol) (env : Env) : Operand → Option AVal
  | .tmp t => lk t env
  | .const v => ofVal 4 v
  | .global g => (pol.glob g).map (.fptr false)
  | .func f => some (.func (.func f) [] [])

def AVal.cellsOf : AVal → List AVal
  | .agg cs => cs
  | v => [v]

def AVal.one : AVal → Bool
  | .agg _ | .tuple _ => false
  | _ => true

/-! ### freezing -/
mutual
/-- Nothing in it refers to an owned block. -/
def AVal.pure : AVal → Bool
  | .bool _ | .int .. | .str _ | .nilptr | .nilfunc | .nilif | .nilmap => true
  | .fsl .. | .fptr .. => true
  | .sl .. | .ptr .. | .map .. | .iter .. | .yld .. => false
  | .func _ fs cs => allPure fs && allPure cs
  | .iface _ v => v.pure
  | .agg cs => allPure cs
  | .tuple cs => allPure cs
def allPure : List AVal → Bool
  | [] => true
  | v :: r => v.pure && allPure r
end

mutual
/-- No part of it is borrowed from an owned block of a caller's. -/
def AVal.clean : AVal → Bool
  | .bool _ | .int .. | .str _ | .nilptr | .nilfunc | .nilif | .nilmap => true
  | .fsl tn _ _ cs => cond tn (match cs with | [] => true | _ :: _ => false) (allClean cs)
  | .fptr tn cs => cond tn false (allClean cs)
  | .sl .. | .ptr .. | .map .. | .iter .. | .yld .. => false
  | .func _ fs cs => allClean fs && allClean cs
  | .iface _ v => v.clean
  | .agg cs => allClean cs
  | .tuple cs => allClean cs
def allClean : List AVal → Bool
  | [] => true
  | v :: r => v.clean && allClean r
end

/-- What an owned slice holds. -/
def rowAt (h : Heap) (b : Id) (inc ver off n : Nat) : Option (List AVal) :=
  match lkI b h with
  | some (.row inc' cur low _ cells) =>
    cond (inc' == inc && (cond (ver == cur) (Nat.ble (off + n) cells.length) (Nat.ble (off + n) low && Nat.ble (off + n) cells.length)))
      (some ((cells.drop off).take n)) none
  | _ => none

/-- A value read whole: each owned slice in it becomes a frozen one (tn: as borrowed); the ids of the rows read are collected. -/
def freeze (tn : Bool) (h : Heap) : Nat → AVal → List Id → Option (AVal × List Id)
  | 0, _, _ => none
  | n + 1, v, acc => match v with
    | .sl cx b inc ver off len sz => match rowAt h b inc ver off (len * sz) with
      | none => none
      | some cells => match freezeL (freeze tn h n) cells (b :: acc) with
        | none => none
        | some (cs, acc) => some (.fsl tn cx len cs, acc)
    | .iface t x => match freeze tn h n x acc with
      | none => none
      | some (y, acc) => some (.iface t y, acc)
    | .agg cs => match freezeL (freeze tn h n) cs acc with
      | none => none
      | some (cs, acc) => some (.agg cs, acc)
    | .tuple cs => match freezeL (freeze tn h n) cs acc with
      | none => none
      | some (cs, acc) => some (.tuple cs, acc)
    | v => cond v.pure (some (v, acc)) none
where
  freezeL (f : AVal → List Id → Option (AVal × List Id)) : List AVal → List Id → Option (List AVal × List Id)
    | [], acc => some ([], acc)
    | v :: r, acc => match f v acc with
      | none => none
      | some (w, acc) => match freezeL f r acc with
        | none => none
        | some (ws, acc) => some (w :: ws, acc)

/-- A pure value is taken as it is. -/
def frz (tn : Bool) (h : Heap) (v : AVal) : Option (AVal × List Id) := cond v.pure (some (v, [])) (freeze tn h 6 v [])

def frzL (tn : Bool) (h : Heap) : List AVal → List Id → Option (List AVal × List Id)
  | [], acc => some ([], acc)
  | v :: r, acc => match frz tn h v with
    | none => none
    | some (w, ids) => match frzL tn h r (ids ++ acc) with
      | none => none
      | some (ws, acc) => some (w :: ws, acc)

def kill : List Id → Heap → Heap
  | [], h => h
  | b :: r, h => kill r (erI b h)

end Go.Ax
