/- The abstract interpreter: operations of a region, calls, control; by fuel: 'exec n' is 'step' n times over nothing. -/
import Derived.Test.YtlpeajiemppicaaGreatDoorPnAxB
import Derived.Orders
namespace Go.Ax
set_option linter.unusedVariables false

inductive Out where
  | norm
  | exit (id : Nat)
  | goto (l : Nat)
  | ret
  | val (v : AVal)

structure Res where
  out : Out
  env : Env
  st : St

inductive Task where
  | code (c : Code) (cx : Cx) (env : Env) (st : St)
  | call (f : FuncId) (args : List AVal) (st : St)

/-- An operation's outcome: its value, the state, whether the state was touched. -/
abbrev OpR := AVal × St × Bool

def quietR (v : Option AVal) (st : St) : Option OpR := match v with
  | some v => some (v, st, false)
  | none => none
def loudR (v : Option (AVal × St)) : Option OpR := match v with
  | some (v, st) => some (v, st, true)
  | none => none
def storeR (v : Option St) : Option OpR := match v with
  | some st => some (.undef, st, true)
  | none => none

def amin2 (isMax : Bool) : AVal → AVal → Option AVal
  | .int k a, .int _ b => some (.int k (cond isMax (if b > a then b else a) (if b < a then b else a)))
  | _, _ => none

def aminL (isMax : Bool) : AVal → List AVal → Option AVal
  | v, [] => some v
  | v, w :: r => match amin2 isMax v w with
    | some u => aminL isMax u r
    | none => none

def alen (P : Program) (t : TypeId) (x : AVal) (st : St) : Option AVal :=
  match P.underlying t, x with
  | some .string, .str s => some (.int .i64 s.length)
  | some (.array n _), _ => some (.int .i64 n)
  | some (.slice _), .sl _ _ _ _ _ n _ => some (.int .i64 n)
  | some (.slice _), .fsl _ _ n _ => some (.int .i64 n)
  | some (.map ..), .nilmap => some (.int .i64 0)
  | some (.map ..), .map b inc => match lkI b st.heap with
    | some (.map inc' es) => cond (inc' == inc) (some (.int .i64 es.length)) none
    | _ => none
  | _, _ => none

def abytesOf (sz : Nat) : List AVal → Option (List Nat)
  | [] => some []
  | .int .u8 n :: r => cond (decide (0 ≤ n) && decide (n < 256)) (match abytesOf sz r with | some l => some (n.toNat :: l) | none => none) none
  | _ => none

def aconvert (pol : Pol) (cx : Cx) (P : Program) (dst : Option Tmp) (src dt : TypeId) (x : AVal) (st : St) : Option OpR :=
  match P.underlying src, P.underlying dt, x with
  | some _, some (.int k), .int _ n => some (.int k (k.wrap n), st, false)
  | some _, some .string, .str s => some (.str s, st, false)
  | some _, some .string, .int _ n => some (.str ((Utf8.encode n).data.toList.map UInt8.toNat), st, false)
  | some (.slice e), some .string, .fsl _ _ len cells => match P.underlying e with
    | some (.int .u8) => cond (cells.length == len) (match abytesOf 1 cells with | some l => some (.str l, st, false) | none => none) none
    | _ => none
  | some (.slice e), some .string, .sl _ b inc ver off len sz => match P.underlying e with
    | some (.int .u8) => cond (sz == 1) (match rowAt st.heap b inc ver off len with
      | some cells => match abytesOf 1 cells with | some l => some (.str l, st, false) | none => none
      | none => none) none
    | _ => none
  | _, _, _ => none

def abuiltin (pol : Pol) (cx : Cx) (P : Program) (dst : Option Tmp) (b : Builtin) (ts : List TypeId) (args : List AVal) (st : St) : Option OpR :=
  match b, ts, args with
  | .len, t :: _, x :: _ => quietR (alen P t x st) st
  | .append, sT :: xT :: _, [s, x] => match dst with
    | some d => loudR (aappend pol cx P d sT xT s x st)
    | none => none
  | .copy, dT :: _, [d, x] => loudR (acopy pol cx P dT d x st)
  | .clear, t :: _, [x] => storeR (aclear P t x st)
  | .max, _, x :: r => quietR (aminL true x r) st
  | .min, _, x :: r => quietR (aminL false x r) st
  | _, _, _ => none

def optL {α : Type} : Option α → List α
  | some a => [a]
  | none => []

def evO (pol : Pol) (env : Env) : Option Operand → Option (Option AVal)
  | none => some none
  | some x => match aev pol env x with
    | some v => some (some v)
    | none => none

/-- Operations other than calls of functions. -/
def aop (pol : Pol) (cx : Cx) (P : Program) (env : Env) (st : St) (o : Oper) : Option OpR :=
  match o.op with
  | .move x | .assign x => quietR (aev pol env x) st
  | .pick c a b => match aev pol env c with
    | some (.bool t) => quietR (aev pol env (cond t a b)) st
    | _ => none
  | .alloc elem => match o.dst, zeroT P elem with
    | some d, some z => cond (z.cellsOf.all AVal.one) (some (.ptr (.v (cx.base + d)) st.clock st.clock 0, newRow (.v (cx.base + d)) false z.cellsOf st, true)) none
    | _, _ => none
  | .box elem x => match o.dst, aev pol env x with
    | some d, some v => cond (v.cellsOf.all AVal.one) (some (.ptr (.v (cx.base + d)) st.clock st.clock 0, newRow (.v (cx.base + d)) false v.cellsOf st, true)) none
    | _, _ => none
  | .build t parts => match evParts pol env parts.toList with
    | some ps => quietR (abuild P t ps) st
    | none => none
  | .buildSlice t len parts => match o.dst, evParts pol env parts.toList with
    | some d, some ps => loudR (abuildSlice pol cx P d t len ps st)
    | _, _ => none
  | .load t a => match aev pol env a with
    | some a => quietR (aload P t a st) st
    | none => none
  | .store t a x => match aev pol env a, aev pol env x with
    | some a, some v => storeR (astore pol cx P t a v st)
    | _, _ => none
  | .nilCheck x => match aev pol env x with
    | some .nilptr | some .nilif | some .nilfunc => none
    | some (.func (.method _) _ _) => none
    | v => quietR v st
  | .binOp op t x y _ => match aev pol env x, aev pol env y with
    | some a, some b => quietR (abin P op t x y a b) st
    | _, _ => none
  | .unOp op _ x => match aev pol env x with
    | some a => quietR (aun op a) st
    | none => none
  | .convert src dt x => match aev pol env x with
    | some a => aconvert pol cx P o.dst src dt a st
    | none => none
  | .makeInterface t x => match aev pol env x, P.underlying t with
    | some _, some (.interface _) => none
    | some a, some _ => some (.iface t a, st, false)
    | _, _ => none
  | .makeFunc fn first captured => match evL pol env first.toList, evL pol env captured.toList with
    | some fs, some cs => some (.func fn fs cs, st, false)
    | _, _ => none
  | .makeMap t r => match o.dst, evO pol env r with
    | some d, some none => match rowId pol cx d st with
      | (b, st) => some (.map b st.clock, { st with clock := st.clock + 1, heap := upI b (.map st.clock []) st.heap }, true)
    | some d, some (some (.int _ _)) => match P.underlying t with
      | some (.map ..) => match rowId pol cx d st with
        | (b, st) => some (.map b st.clock, { st with clock := st.clock + 1, heap := upI b (.map st.clock []) st.heap }, true)
      | _ => none
    | _, _ => none
  | .makeSlice t l c => match o.dst, aev pol env l, aev pol env c with
    | some d, some l, some c => loudR (amakeSlice pol cx P d t l c st)
    | _, _, _ => none
  | .slice t x lo hi mx => match aev pol env x, evO pol env lo, evO pol env hi, evO pol env mx with
    | some x, some lo, some hi, some mx => quietR (aslice P st t x lo hi mx) st
    | _, _, _, _ => none
  | .fieldAddr s x f => match aev pol env x with
    | some a => quietR (afieldAddr P s a f) st
    | none => none
  | .field t x f => match aev pol env x with
    | some a => quietR (afield P t a f) st
    | none => none
  | .indexAddr t x ix => match aev pol env x, aev pol env ix with
    | some a, some i => quietR (aindexAddr P t a i) st
    | _, _ => none
  | .index t x ix => match aev pol env x, aev pol env ix with
    | some a, some i => quietR (aindex P t a i) st
    | _, _ => none
  | .lookup t x ix ok => match aev pol env x, aev pol env ix with
    | some a, some i => quietR (alookup P t a i ok st) st
    | _, _ => none
  | .mapUpdate t m k v => match aev pol env m, aev pol env k, aev pol env v with
    | some m, some k, some v => storeR (amapUpdate pol cx P t m k v st)
    | _, _, _ => none
  | .insert t m k v => match aev pol env m, aev pol env k, aev pol env v with
    | some m, some k, some v => storeR (amapUpdate pol cx P t m k v st)
    | _, _, _ => none
  | .range t x => match o.dst, aev pol env x, P.underlying t with
    | some d, some (.str s), some .string => match rowId pol cx d st with
      | (b, st) => some (.iter b st.clock, { st with clock := st.clock + 1, heap := upI b (.iter st.clock s 0) st.heap }, true)
    | _, _, _ => none
  | .next it isString => match aev pol env it with
    | some it => cond isString (loudR (anext it st)) none
    | none => none
  | .typeAssert x _ asserted ok => match aev pol env x with
    | some x => quietR (atypeAssert P x asserted ok) st
    | none => none
  | .extract t i => match aev pol env t with
    | some t => quietR (aextract t i) st
    | none => none
  | .call c => match c.callee with
    | .builtin b => match evL pol env c.args.toList with
      | some args => abuiltin pol cx P o.dst b c.argTypes.toList args st
      | none => none
    | _ => none
  | _ => none

/-- What a call of a function goes to. -/
inductive Tgt where
  | fn (f : FuncId) (args : List AVal)
  | yld (b : Id) (inc : Nat) (args : List AVal)

def atgt (pol : Pol) (P : Program) (env : Env) (st : St) (c : Call) : Option Tgt :=
  match evL pol env c.args.toList with
  | none => none
  | some args => match c.callee with
    | .builtin _ => none
    | .value f => match aev pol env f with
      | some (.func (.func g) first captured) => some (.fn g (first ++ args ++ captured))
      | some (.yld b inc) => some (.yld b inc args)
      | _ => none
    | .invoke r name => match aev pol env r with
      | some (.iface t v) => match amethod P st t v name with
        | some (f, recv) => some (.fn f (recv :: args))
        | none => none
      | _ => none

def acallShared (rec : Task → Option Res) (f : FuncId) (args : List AVal) (st : St) : Option OpR :=
  match rec (.call f args st) with
  | some ⟨.val v, _, st'⟩ => some (v, st', true)
  | _ => none

/-- A call: where its arguments can be read whole, in a heap of its own; else in the caller's. -/
def acallFn (rec : Task → Option Res) (pol : Pol) (f : FuncId) (args : List AVal) (st : St) : Option OpR :=
  cond (pol.sorts f) (storeR (asort st args)) (cond (pol.shared f) (acallShared rec f args st)
    (match frzL true st.heap args [] with
     | none => acallShared rec f args st
     | some (args', ids) => match rec (.call f args' St.init) with
       | some ⟨.val v, _, st'⟩ => match frz false st'.heap v with
         | some (r, _) => match ids with
           | [] => some (r, st, false)
           | _ :: _ => cond r.clean (some (r, st, false)) (some (r, { st with heap := kill ids st.heap }, true))
         | none => none
       | _ => none))

def setParams : List Tmp → List AVal → Env → Env
  | t :: ts, v :: vs, env => setParams ts vs (up t v env)
  | _, _, env => env

/-- A round of a range over a function. -/
def around (rec : Task → Option Res) (b : Id) (inc : Nat) (args : List AVal) (st : St) : Option OpR :=
  match lkI b st.heap with
  | some (.loop inc' .ready pd fn base nt env params assign body) =>
    cond (inc' == inc && args.length == params.length && params.all fun t => Nat.blt t nt)
      (match rec (.code assign ⟨fn, base, nt, some (b, inc)⟩ (setParams params args env) st) with
       | some ⟨.norm, env1, st1⟩ => match lkI b st1.heap with
         | some (.loop inc1 .ready pd1 fn1 base1 nt1 envL params1 assign1 body1) =>
           cond (inc1 == inc)
             (match rec (.code body ⟨fn, base, nt, some (b, inc)⟩ env1 { st1 with heap := upI b (.loop inc1 .busy pd1 fn1 base1 nt1 envL params1 assign1 body1) st1.heap }) with
              | some ⟨o, env2, st2⟩ => match lkI b st2.heap with
                | some (.loop inc2 .busy pd2 fn2 base2 nt2 envL2 params2 assign2 body2) =>
                  cond (inc2 == inc)
                    (match o with
                     | .norm => some (.bool true, { st2 with heap := upI b (.loop inc2 .ready none fn2 base2 nt2 envL2 params2 assign2 body2) st2.heap }, true)
                     | .ret => some (.bool false, { st2 with heap := upI b (.loop inc2 .done (some .ret) fn2 base2 nt2 envL2 params2 assign2 body2) st2.heap }, true)
                     | .exit id => some (.bool false, { st2 with heap := upI b (.loop inc2 .done (some (.exit id)) fn2 base2 nt2 envL2 params2 assign2 body2) st2.heap }, true)
                     | .goto l => some (.bool false, { st2 with heap := upI b (.loop inc2 .done (some (.goto l)) fn2 base2 nt2 envL2 params2 assign2 body2) st2.heap }, true)
                     | .val _ => none) none
                | _ => none
              | none => none) none
         | _ => none
       | _ => none) none
  | _ => none

def acall (rec : Task → Option Res) (pol : Pol) (P : Program) (env : Env) (st : St) (c : Call) : Option OpR :=
  match atgt pol P env st c with
  | some (.fn f args) => acallFn rec pol f args st
  | some (.yld b inc args) => around rec b inc args st
  | none => none

def isFnCall : Op → Bool
  | .call { callee := .builtin _, .. } => false
  | .call _ => true
  | _ => false

def aoper (rec : Task → Option Res) (pol : Pol) (cx : Cx) (P : Program) (env : Env) (st : St) (o : Oper) : Option OpR :=
  match o.op with
  | .call c => match c.callee with
    | .builtin _ => aop pol cx P env st o
    | _ => acall rec pol P env st c
  | _ => aop pol cx P env st o

/-- Is an operation's guard met? -/
def awanted (ops : Array Oper) (env : Env) (o : Oper) : Option Bool :=
  match o.guard with
  | none => some true
  | some (j, want) => match (ops[j]?).bind (·.dst) with
    | none => some false
    | some d => match lk d env with
      | some (.bool b) => some (b == want)
      | some (.tuple []) => some false
      | _ => none

def aput' (nt : Nat) (dst : Option Tmp) (v : AVal) (env : Env) : Option Env :=
  match dst with
  | none => some env
  | some d => cond (Nat.blt d nt) (some (up d v env)) none

def aops (rec : Task → Option Res) (pol : Pol) (cx : Cx) (P : Program) (ops : Array Oper) : List Oper → Env → St → Option (Env × St)
  | [], env, st => some (env, st)
  | o :: r, env, st => match awanted ops env o with
    | none => none
    | some false => match aput' cx.nt o.dst .undef env with
      | some env => aops rec pol cx P ops r env st
      | none => none
    | some true => match aoper rec pol cx P env st o with
      | none => none
      | some (v, st', _) => match aput' cx.nt o.dst v env with
        | some env => aops rec pol cx P ops r env st'
        | none => none

/-! ### regions whose order is drawn -/
def listEqBy (f : AVal → AVal → Bool) : List AVal → List AVal → Bool
  | [], [] => true
  | a :: x, b :: y => f a b && listEqBy f x y
  | _, _ => false

def aveq : Nat → AVal → AVal → Bool
  | 0, _, _ => false
  | n + 1, a, b => match a, b with
    | .bool x, .bool y => x == y
    | .int k x, .int k' y => k == k' && x == y
    | .str x, .str y => natsEq x y
    | .nilptr, .nilptr => true
    | .nilfunc, .nilfunc => true
    | .nilif, .nilif => true
    | .nilmap, .nilmap => true
    | .fsl tn cx len cells, .fsl tn' cx' len' cells' => tn == tn' && cx == cx' && len == len' && listEqBy (aveq n) cells cells'
    | .sl cx b inc ver off len sz, .sl cx' b' inc' ver' off' len' sz' => cx == cx' && b.eq b' && inc == inc' && ver == ver' && off == off' && len == len' && sz == sz'
    | .ptr b inc ver off, .ptr b' inc' ver' off' => b.eq b' && inc == inc' && ver == ver' && off == off'
    | .fptr tn cells, .fptr tn' cells' => tn == tn' && listEqBy (aveq n) cells cells'
    | .map b inc, .map b' inc' => b.eq b' && inc == inc'
    | .iter b inc, .iter b' inc' => b.eq b' && inc == inc'
    | .yld b inc, .yld b' inc' => b.eq b' && inc == inc'
    | .func (.func g) fs cs, .func (.func g') fs' cs' => g == g' && listEqBy (aveq n) fs fs' && listEqBy (aveq n) cs cs'
    | .iface t v, .iface t' v' => t == t' && aveq n v v'
    | .agg cs, .agg cs' => listEqBy (aveq n) cs cs'
    | .tuple cs, .tuple cs' => listEqBy (aveq n) cs cs'
    | _, _ => false

/-- What an environment says of these slots. -/
def pickE : List Tmp → Env → Env
  | [], _ => []
  | t :: ts, env => match lk t env with
    | some v => (t, v) :: pickE ts env
    | none => pickE ts env

/-- A variable that such a region lays: its operation's place, its slot, its cells. -/
structure DVar where
  i : Nat
  o : Oper
  d : Nat
  cells : List AVal

/-- An operation of a region whose order is drawn, seen in listing order: its place, the environment ahead of it, what it yields, whether it changes the state, the state behind it. -/
structure DItem where
  i : Nat
  o : Oper
  env : Env
  v : AVal
  loud : Bool
  st' : St

def adraw1 (rec : Task → Option Res) (pol : Pol) (cx : Cx) (P : Program) (ops : Array Oper) (env : Env) (st : St) (o : Oper) : Option OpR :=
  match awanted ops (pickE (o.looksAt ops) env) o with
  | none => none
  | some false => some (.undef, st, false)
  | some true => aoper rec pol cx P (pickE (o.looksAt ops) env) st o

def edgeTo (o : Oper) (j : Nat) : Bool := o.after.any fun e => Region.binds .any e && e.on == j

/-- Is an operation bound to come behind that of place j, directly or through others? -/
def reachN (ops : Array Oper) (j : Nat) : Nat → Oper → Bool
  | 0, o => edgeTo o j
  | n + 1, o => edgeTo o j || o.after.any fun e => Region.binds .any e && Nat.blt j e.on && (match ops[e.on]? with
    | some o' => reachN ops j n o'
    | none => false)

def reach (ops : Array Oper) (o : Oper) (j : Nat) : Bool := reachN ops j 5 o

/-- Is this operation one that lays a variable? -/
def dvar (P : Program) (i : Nat) (o : Oper) : Option DVar :=
  match o.op, o.guard, o.dst with
  | .alloc elem, none, some d => match zeroT P elem with
    | some z => cond (z.cellsOf.all AVal.one) (some ⟨i, o, d, z.cellsOf⟩) none
    | none => none
  | _, _, _ => none

def dvars (P : Program) : Nat → List Oper → List DVar
  | _, [] => []
  | i, o :: r => match dvar P i o with
    | some x => x :: dvars P (i + 1) r
    | none => dvars P (i + 1) r

/-- The variables laid: each has its own clock, whenever it is laid. -/
def layVars (cx : Cx) (c0 : Nat) : List DVar → Heap → Heap
  | [], h => h
  | x :: r, h => layVars cx c0 r (upI (.v (cx.base + x.d)) (.row (c0 + x.i) (c0 + x.i) x.cells.length false x.cells) h)

/-- The state without some of the variables. -/
def lackOf (cx : Cx) (un : List DVar) (st : St) : St := { st with heap := kill (un.map fun y => Id.v (cx.base + y.d)) st.heap }

def esEq : List (AVal × AVal) → List (AVal × AVal) → Bool
  | [], [] => true
  | (a, b) :: r, (c, d) :: s => aveq 1000 a c && aveq 1000 b d && esEq r s
  | _, _ => false

def blkEq : ABlk → ABlk → Bool
  | .row i c l d cs, .row i' c' l' d' cs' => i == i' && c == c' && l == l' && d == d' && listEqBy (aveq 1000) cs cs'
  | .map i es, .map i' es' => i == i' && esEq es es'
  | .iter i s p, .iter i' s' p' => i == i' && natsEq s s' && p == p'
  | _, _ => false

def heapEq : Heap → Heap → Bool
  | [], [] => true
  | (a, x) :: r, (b, y) :: s => a.eq b && blkEq x y && heapEq r s
  | _, _ => false

def stEq (a b : St) : Bool := a.clock == b.clock && a.next == b.next && a.rnext == b.rnext && heapEq a.heap b.heap

/-- At every way in which some of the variables have not been laid yet. -/
def lackAll (ops : Array Oper) (x : DItem) (f : List DVar → Bool) : List DVar → List DVar → Bool
  | [], un => f un
  | y :: r, un => (reach ops y.o x.i || lackAll ops x f r un) && (reach ops x.o y.i || lackAll ops x f r (un ++ [y]))

def rowIs (cx : Cx) (c0 : Nat) (y : DVar) (h : Heap) : Bool :=
  match lkI (.v (cx.base + y.d)) h with
  | some k => blkEq k (.row (c0 + y.i) (c0 + y.i) y.cells.length false y.cells)
  | none => false

def loudAt (rec : Task → Option Res) (pol : Pol) (cx : Cx) (P : Program) (ops : Array Oper) (x : DItem) (st : St) : List DVar → Bool
  | [] => true
  | y :: r => match adraw1 rec pol cx P ops x.env (lackOf cx (y :: r) st) x.o with
    | some (v, s, true) => aveq 1000 x.v v && stEq s (lackOf cx (y :: r) x.st')
    | _ => false

/-- A loud operation does the same at every way in which some variables have not been laid yet, and leaves them alone. -/
def loudOk (rec : Task → Option Res) (pol : Pol) (cx : Cx) (P : Program) (ops : Array Oper) (c0 : Nat) (vars : List DVar) (x : DItem) (st : St) : Bool :=
  (vars.all fun y => reach ops x.o y.i || rowIs cx c0 y x.st'.heap) && lackAll ops x (loudAt rec pol cx P ops x st) vars []

def adrawSeq (rec : Task → Option Res) (pol : Pol) (cx : Cx) (P : Program) (ops : Array Oper) (c0 : Nat) (vars : List DVar) : Nat → Option Nat → List Oper → Env → St → Option (List DItem × Env × St)
  | _, _, [], env, st => some ([], env, st)
  | i, last, o :: r, env, st =>
    match (match dvar P i o with
      | some x => some (AVal.ptr (.v (cx.base + x.d)) (c0 + i) (c0 + i) 0, st, false)
      | none => adraw1 rec pol cx P ops env st o) with
    | none => none
    | some (v, st', loud) => cond (o.after.all fun e => !Region.binds .any e || Nat.blt e.on i)
      (cond (!loud || (loudOk rec pol cx P ops c0 vars ⟨i, o, env, v, loud, st'⟩ st && match last with | none => true | some j => reach ops o j))
        (match aput' cx.nt o.dst v env with
         | none => none
         | some env' => match adrawSeq rec pol cx P ops c0 vars (i + 1) (cond loud (some i) last) r env' (cond loud st' st) with
           | none => none
           | some (l, e, s) => some (⟨i, o, env, v, loud, st'⟩ :: l, e, s)) none) none

/-- Two operations of which the one writes what the other looks at are bound to the order in which they are listed. -/
def apartOk (ops : Array Oper) (x y : DItem) : Bool :=
  x.i == y.i || (match x.o.dst with
    | none => true
    | some d => !(y.o.dst == some d) && (!(y.o.looksAt ops).contains d || cond (Nat.blt x.i y.i) (reach ops y.o x.i) (reach ops x.o y.i)))

/-- Could the quiet operation x come up when the loud ones up to place k (and no later one) have been done? -/
def couldBe (ops : Array Oper) (items : List DItem) (x : DItem) (k : Nat) : Bool :=
  items.all fun y => !y.loud || cond (Nat.blt y.i k) (!reach ops y.o x.i) (!reach ops x.o y.i)

def sameAt (rec : Task → Option Res) (pol : Pol) (cx : Cx) (P : Program) (ops : Array Oper) (x : DItem) (st : St) : Bool :=
  match adraw1 rec pol cx P ops x.env st x.o with
  | some (v, _, false) => aveq 1000 x.v v
  | _ => false

def quietOk (rec : Task → Option Res) (pol : Pol) (cx : Cx) (P : Program) (ops : Array Oper) (items : List DItem) (vars : List DVar) (stA : St) (x : DItem) : Bool :=
  x.loud || (dvar P x.i x.o).isSome || ((!couldBe ops items x 0 || lackAll ops x (fun un => sameAt rec pol cx P ops x (lackOf cx un stA)) vars []) && items.all fun y => !y.loud || (!couldBe ops items x (y.i + 1) || lackAll ops x (fun un => sameAt rec pol cx P ops x (lackOf cx un y.st')) vars []))

def adraw (rec : Task → Option Res) (pol : Pol) (cx : Cx) (P : Program) (ops : Array Oper) (env : Env) (st : St) : Option (Env × St) :=
  match dvars P 0 ops.toList with
  | vars => match { st with clock := st.clock + ops.size, heap := layVars cx st.clock vars st.heap } with
    | stA => match adrawSeq rec pol cx P ops st.clock vars 0 none ops.toList env stA with
      | none => none
      | some (items, env', st') =>
        cond (items.all fun x => items.all fun y => apartOk ops x y)
          (cond (items.any (·.loud) || !vars.isEmpty) (cond (items.all fun x => quietOk rec pol cx P ops items vars stA x) (some (env', st')) none) (some (env', st'))) none

def argEnv : Nat → List AVal → Env
  | _, [] => []
  | i, v :: r => (i, v) :: argEnv (i + 1) r

def aresult (P : Program) (env : Env) (st : St) : ResultVar → Option AVal
  | .tmp t => lk t env
  | .cell a t => match lk a env with
    | some p => aload P t p st
    | none => none

def aresults (P : Program) (env : Env) (st : St) : List ResultVar → Option (List AVal)
  | [] => some []
  | r :: rs => match aresult P env st r with
    | none => none
    | some v => match aresults P env st rs with
      | none => none
      | some vs => some (v :: vs)

def packed : List AVal → AVal
  | [v] => v
  | vs => .tuple vs

def jumpOut : Option Code → Option Out
  | none => some .norm
  | some .ret => some .ret
  | some (.exit id) => some (.exit id)
  | some (.goto l) => some (.goto l)
  | _ => none

/-- A loop within a round: the loop around it is still there. -/
def roundOk (cx : Cx) (st : St) : Bool :=
  match cx.round with
  | none => true
  | some (b, inc) => match lkI b st.heap with
    | some (.loop inc' _ _ _ _ _ _ _ _ _) => inc' == inc
    | _ => false

def arange (rec : Task → Option Res) (pol : Pol) (cx : Cx) (env : Env) (st : St) (g : Operand) (params : Array Tmp) (assign body : Code) : Option Res :=
  match aev pol env g, params.toList with
  | some (.func (.func gf) first captured), p0 :: _ =>
    cond (roundOk cx st)
    (match rec (.call gf (first ++ [.yld (.v (cx.base + p0)) st.clock] ++ captured)
        { st with clock := st.clock + 1, heap := upI (.v (cx.base + p0)) (.loop st.clock .ready none cx.fn cx.base cx.nt env params.toList assign body) st.heap }) with
    | some ⟨.val _, _, st'⟩ => match lkI (.v (cx.base + p0)) st'.heap with
      | some (.loop inc .ready pd _ _ _ _ _ _ _) => cond (inc == st.clock) (match jumpOut pd with
        | some o => some ⟨o, env, { st' with heap := erI (.v (cx.base + p0)) st'.heap }⟩
        | none => none) none
      | some (.loop inc .done pd _ _ _ _ _ _ _) => cond (inc == st.clock) (match jumpOut pd with
        | some o => some ⟨o, env, { st' with heap := erI (.v (cx.base + p0)) st'.heap }⟩
        | none => none) none
      | _ => none
    | _ => none) none
  | _, _ => none

def acode (rec : Task → Option Res) (pol : Pol) (P : Program) (c : Code) (cx : Cx) (env : Env) (st : St) : Option Res :=
  match c with
  | .skip => some ⟨.norm, env, st⟩
  | .label _ => some ⟨.norm, env, st⟩
  | .seq a b => match rec (.code a cx env st) with
    | some ⟨.norm, env, st⟩ => rec (.code b cx env st)
    | r => r
  | .cond x a b => match aev pol env x with
    | some (.bool t) => rec (.code (cond t a b) cx env st)
    | _ => none
  | .block id a => match rec (.code a cx env st) with
    | some ⟨.exit id', env, st⟩ => cond (id' == id) (some ⟨.norm, env, st⟩) (some ⟨.exit id', env, st⟩)
    | r => r
  | .loop a => match rec (.code a cx env st) with
    | some ⟨.norm, env, st⟩ => rec (.code (.loop a) cx env st)
    | r => r
  | .scope a => match rec (.code a cx env st) with
    | some ⟨.goto _, _, _⟩ => none
    | r => r
  | .exit id => some ⟨.exit id, env, st⟩
  | .goto l => some ⟨.goto l, env, st⟩
  | .ret => some ⟨.ret, env, st⟩
  | .region _ ops draw => match cond draw (adraw rec pol cx P ops env st) (aops rec pol cx P ops ops.toList env st) with
    | some (env, st) => some ⟨.norm, env, st⟩
    | none => none
  | .rangeFunc g params assign body => arange rec pol cx env st g params assign body
  | .refuse _ => none

def acallBody (rec : Task → Option Res) (pol : Pol) (P : Program) (f : FuncId) (args : List AVal) (st : St) : Option Res :=
  match P.funcs[f]? with
  | none => none
  | some fn => match fn.body with
    | none => none
    | some c => cond (Nat.ble args.length fn.ntmps)
      (match rec (.code c ⟨f, st.next, fn.ntmps, none⟩ (argEnv 0 args) { st with next := st.next + fn.ntmps }) with
       | some ⟨.norm, env, st'⟩ | some ⟨.ret, env, st'⟩ => match aresults P env st' fn.results.toList with
         | some vs => some ⟨.val (packed vs), [], cond (pol.esc f) st' { st' with next := st.next, heap := dropV st.next st'.heap }⟩
         | none => none
       | _ => none) none

def step (pol : Pol) (P : Program) (rec : Task → Option Res) : Task → Option Res
  | .code c cx env st => acode rec pol P c cx env st
  | .call f args st => acallBody rec pol P f args st

def exec (pol : Pol) (P : Program) : Nat → Task → Option Res
  | 0, _ => none
  | n + 1, t => step pol P (exec pol P n) t

end Go.Ax
