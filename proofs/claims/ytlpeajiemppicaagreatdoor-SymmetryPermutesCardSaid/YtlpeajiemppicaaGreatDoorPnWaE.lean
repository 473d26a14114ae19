/- Walks on open values: a judgement 'Run' for pieces of a function's code, its rules, and 'ExCall' for whole calls. -/
import Derived.Test.YtlpeajiemppicaaGreatDoorPnWaA
import Derived.KernelRfl
import Derived.ProofKit
import Derived.LaidMore
import Derived.OpenShut
import Derived.Stop.Joined
namespace Go.Ax
set_option linter.unusedVariables false
set_option linter.unusedSimpArgs false
variable {P : Program} {pol : Pol} {cx : Cx}

/-- The piece of code at a path. -/
def sub : List Bool → Code → Code
  | [], c => c
  | b :: r, c => match c with
    | .seq x y => sub r (cond b y x)
    | .cond _ x y => sub r (cond b y x)
    | .block _ x => sub r x
    | .loop x => sub r x
    | .scope x => sub r x
    | .rangeFunc _ _ x y => sub r (cond b y x)
    | _ => .skip

def opsOf : Code → Array Oper
  | .region _ ops _ => ops
  | _ => #[]

/-- The code, run from env and st, ends with o and st1, and its environment then holds at least env1. -/
def Run (pol : Pol) (P : Program) (cx : Cx) (c : Code) (env : Env) (st : St) (o : Out) (env1 : Env) (st1 : St) : Prop :=
  ∃ n e, exec pol P n (.code c cx env st) = some ⟨o, e, st1⟩ ∧ EnvLe env1 e

theorem exec_at {n m : Nat} (h : n ≤ m) {t : Task} {r : Res} (hr : exec pol P n t = some r) : exec pol P m t = some r := exec_le h t r hr

theorem Run.weaken {c : Code} {env : Env} {st : St} {o : Out} {e1 e0 : Env} {s1 : St} (h : Run pol P cx c env st o e1 s1) (he : EnvLe e0 e1) : Run pol P cx c env st o e0 s1 := by
  obtain ⟨n, e, h1, h2⟩ := h
  exact ⟨n, e, h1, he.trans h2⟩

theorem Run.pre {c : Code} {env env' : Env} {st : St} {o : Out} {e1 : Env} {s1 : St} (ht : tame c = true) (h : Run pol P cx c env st o e1 s1) (he : EnvLe env env') : Run pol P cx c env' st o e1 s1 := by
  obtain ⟨n, e, h1, h2⟩ := h
  obtain ⟨e', h3, h4⟩ := exec_env ht he h1
  exact ⟨n, e', h3, h2.trans h4⟩

theorem Run.skip {c : Code} (hc : c = .skip) (env : Env) (st : St) : Run pol P cx c env st .norm env st := by
  subst hc; exact ⟨1, env, rfl, EnvLe.refl _⟩
theorem Run.exit {c : Code} {id : Nat} (hc : c = .exit id) (env : Env) (st : St) : Run pol P cx c env st (.exit id) env st := by
  subst hc; exact ⟨1, env, rfl, EnvLe.refl _⟩
theorem Run.ret {c : Code} (hc : c = .ret) (env : Env) (st : St) : Run pol P cx c env st .ret env st := by
  subst hc; exact ⟨1, env, rfl, EnvLe.refl _⟩

theorem Run.seq {c a b : Code} (hc : c = .seq a b) (ht : tame b = true) {env e1 e2 : Env} {st s1 s2 : St} {o : Out} (h1 : Run pol P cx a env st .norm e1 s1) (h2 : Run pol P cx b e1 s1 o e2 s2) : Run pol P cx c env st o e2 s2 := by
  subst hc
  obtain ⟨n, e, ha, he⟩ := h1
  obtain ⟨m, e', hb, he'⟩ := h2.pre ht he
  refine ⟨max n m + 1, e', ?_, he'⟩
  show acode (exec pol P (max n m)) pol P (.seq a b) cx env st = _
  unfold acode
  simp only [exec_at (Nat.le_max_left n m) ha, exec_at (Nat.le_max_right n m) hb]

def Out.isNorm : Out → Bool
  | .norm => true
  | _ => false

theorem Run.seqOut {c a b : Code} (hc : c = .seq a b) {env e1 : Env} {st s1 : St} {o : Out} (ho : o.isNorm = false) (h1 : Run pol P cx a env st o e1 s1) : Run pol P cx c env st o e1 s1 := by
  subst hc
  obtain ⟨n, e, ha, he⟩ := h1
  refine ⟨n + 1, e, ?_, he⟩
  show acode (exec pol P n) pol P (.seq a b) cx env st = _
  unfold acode
  simp only [ha]
  cases o <;> first | rfl | cases ho

theorem Run.cond {c a b : Code} {x : Operand} {t : Bool} (hc : c = .cond x a b) {env e1 : Env} {st s1 : St} {o : Out} (hx : aev pol env x = some (.bool t)) (h1 : Run pol P cx (cond t a b) env st o e1 s1) : Run pol P cx c env st o e1 s1 := by
  subst hc
  obtain ⟨n, e, ha, he⟩ := h1
  refine ⟨n + 1, e, ?_, he⟩
  show acode (exec pol P n) pol P (.cond x a b) cx env st = _
  unfold acode
  simp only [hx, ha]

/-- A block hands on what is no exit of its own. -/
def Out.leaves (id : Nat) : Out → Bool
  | .exit id' => !(id' == id)
  | _ => true

theorem Run.block {c a : Code} {id : Nat} (hc : c = .block id a) {env e1 : Env} {st s1 : St} {o : Out} (ho : o.leaves id = true) (h1 : Run pol P cx a env st o e1 s1) : Run pol P cx c env st o e1 s1 := by
  subst hc
  obtain ⟨n, e, ha, he⟩ := h1
  refine ⟨n + 1, e, ?_, he⟩
  show acode (exec pol P n) pol P (.block id a) cx env st = _
  unfold acode
  simp only [ha]
  cases o with
  | exit id' =>
    simp only [Out.leaves, Bool.not_eq_true'] at ho
    simp only [ho, cond_false]
  | _ => rfl

theorem Run.blockExit {c a : Code} {id : Nat} (hc : c = .block id a) {env e1 : Env} {st s1 : St} (h1 : Run pol P cx a env st (.exit id) e1 s1) : Run pol P cx c env st .norm e1 s1 := by
  subst hc
  obtain ⟨n, e, ha, he⟩ := h1
  refine ⟨n + 1, e, ?_, he⟩
  show acode (exec pol P n) pol P (.block id a) cx env st = _
  unfold acode
  simp only [ha, beq_self_eq_true, cond_true]

theorem Run.loop {c a : Code} (hc : c = .loop a) (ht : tame a = true) {env e1 e2 : Env} {st s1 s2 : St} {o : Out} (h1 : Run pol P cx a env st .norm e1 s1) (h2 : Run pol P cx c e1 s1 o e2 s2) : Run pol P cx c env st o e2 s2 := by
  subst hc
  obtain ⟨n, e, ha, he⟩ := h1
  obtain ⟨m, e', hb, he'⟩ := h2.pre (by exact ht) he
  refine ⟨max n m + 1, e', ?_, he'⟩
  show acode (exec pol P (max n m)) pol P (.loop a) cx env st = _
  unfold acode
  simp only [exec_at (Nat.le_max_left n m) ha, exec_at (Nat.le_max_right n m) hb]

theorem Run.loopOut {c a : Code} (hc : c = .loop a) {env e1 : Env} {st s1 : St} {o : Out} (ho : o.isNorm = false) (h1 : Run pol P cx a env st o e1 s1) : Run pol P cx c env st o e1 s1 := by
  subst hc
  obtain ⟨n, e, ha, he⟩ := h1
  refine ⟨n + 1, e, ?_, he⟩
  show acode (exec pol P n) pol P (.loop a) cx env st = _
  unfold acode
  simp only [ha]
  cases o <;> first | rfl | cases ho

theorem Run.scope {c a : Code} (hc : c = .scope a) {env e1 : Env} {st s1 : St} {o : Out} (ho : (match o with | .goto _ => false | _ => true) = true) (h1 : Run pol P cx a env st o e1 s1) : Run pol P cx c env st o e1 s1 := by
  subst hc
  obtain ⟨n, e, ha, he⟩ := h1
  refine ⟨n + 1, e, ?_, he⟩
  show acode (exec pol P n) pol P (.scope a) cx env st = _
  unfold acode
  simp only [ha]
  cases o <;> first | rfl | cases ho

/-! ### regions -/
def OpsFrom (pol : Pol) (P : Program) (cx : Cx) (ops : Array Oper) (i : Nat) (env : Env) (st : St) (env1 : Env) (st1 : St) : Prop :=
  ∃ n, aops (exec pol P n) pol cx P ops (ops.toList.drop i) env st = some (env1, st1)

def plainRegion : Code → Bool
  | .region _ _ draw => !draw
  | _ => false

theorem Run.region {c : Code} (hc : plainRegion c = true) {env e1 : Env} {st s1 : St} (h : OpsFrom pol P cx (opsOf c) 0 env st e1 s1) : Run pol P cx c env st .norm e1 s1 := by
  cases c with
  | region id ops draw =>
    cases draw with
    | true => cases hc
    | false =>
      obtain ⟨n, h⟩ := h
      refine ⟨n + 1, e1, ?_, EnvLe.refl _⟩
      show acode (exec pol P n) pol P (.region id ops false) cx env st = _
      unfold acode
      simp only [opsOf, List.drop_zero] at h
      simp only [cond_false, h]
  | _ => cases hc

theorem OpsFrom.done {ops : Array Oper} {i : Nat} (h : ops.toList.drop i = []) (env : Env) (st : St) : OpsFrom pol P cx ops i env st env st := ⟨0, by rw [h]; rfl⟩

theorem aops_append {rec : Task → Option Res} {ops : Array Oper} : ∀ {l m : List Oper} {env e1 : Env} {st s1 : St}, aops rec pol cx P ops l env st = some (e1, s1) → aops rec pol cx P ops (l ++ m) env st = aops rec pol cx P ops m e1 s1
  | [], m, env, e1, st, s1, h => by cases h; rfl
  | o :: l, m, env, e1, st, s1, h => by
    simp only [aops, List.cons_append] at h ⊢
    cases hw : awanted ops env o with
    | none => rw [hw] at h; cases h
    | some t =>
      rw [hw] at h
      cases t with
      | false =>
        simp only at h ⊢
        cases hp : aput' cx.nt o.dst .undef env with
        | none => rw [hp] at h; cases h
        | some e => rw [hp] at h; exact aops_append h
      | true =>
        simp only at h ⊢
        cases ho : aoper rec pol cx P env st o with
        | none => rw [ho] at h; cases h
        | some q =>
          rw [ho] at h
          obtain ⟨v, s2, tch⟩ := q
          simp only at h ⊢
          cases hp : aput' cx.nt o.dst v env with
          | none => rw [hp] at h; cases h
          | some e => rw [hp] at h; exact aops_append h

theorem OpsFrom.seg {ops : Array Oper} {i : Nat} (k : Nat) {env e1 e2 : Env} {st s1 s2 : St} (h : aops (exec pol P 0) pol cx P ops ((ops.toList.drop i).take k) env st = some (e1, s1)) (h2 : OpsFrom pol P cx ops (i + k) e1 s1 e2 s2) : OpsFrom pol P cx ops i env st e2 s2 := by
  obtain ⟨n, h2⟩ := h2
  refine ⟨n, ?_⟩
  have h3 := aops_mono (exec_le (pol := pol) (P := P) (Nat.zero_le n)) h
  rw [← List.take_append_drop k (ops.toList.drop i), aops_append h3, List.drop_drop]
  exact h2

def opAt (ops : Array Oper) (i : Nat) : Option Oper := (ops.toList.drop i).head?

theorem drop_opAt {ops : Array Oper} {i : Nat} {o : Oper} (h : opAt ops i = some o) : ops.toList.drop i = o :: ops.toList.drop (i + 1) := by
  unfold opAt at h
  cases hd : ops.toList.drop i with
  | nil => rw [hd] at h; cases h
  | cons x r =>
    rw [hd] at h
    cases h
    rw [← List.drop_drop, hd]
    rfl

/-- One operation, by its own fact. -/
theorem OpsFrom.one {ops : Array Oper} {i : Nat} {o : Oper} (ho : opAt ops i = some o) {env e1 e2 : Env} {st s1 s2 : St} {v : AVal} {tch : Bool} (hw : awanted ops env o = some true)
    (h : ∃ n, aoper (exec pol P n) pol cx P env st o = some (v, s1, tch)) (hp : aput' cx.nt o.dst v env = some e1) (h2 : OpsFrom pol P cx ops (i + 1) e1 s1 e2 s2) : OpsFrom pol P cx ops i env st e2 s2 := by
  obtain ⟨n, h⟩ := h
  obtain ⟨m, h2⟩ := h2
  refine ⟨max n m, ?_⟩
  rw [drop_opAt ho]
  simp only [aops, hw]
  have h3 := aoper_mono (exec_le (pol := pol) (P := P) (Nat.le_max_left n m)) h
  have h4 := aops_mono (exec_le (pol := pol) (P := P) (Nat.le_max_right n m)) h2
  simp only [h3, hp, h4]

/-- One operation that answers a truth value known by a hypothesis. -/
theorem OpsFrom.lit {ops : Array Oper} {i : Nat} {o : Oper} (ho : opAt ops i = some o) {env e1 e2 : Env} {st s1 s2 : St} {b c : Bool} {tch : Bool} (hw : awanted ops env o = some true)
    (h : aoper (exec pol P 0) pol cx P env st o = some (.bool b, s1, tch)) (hb : b = c) (hp : aput' cx.nt o.dst (.bool c) env = some e1) (h2 : OpsFrom pol P cx ops (i + 1) e1 s1 e2 s2) : OpsFrom pol P cx ops i env st e2 s2 := by
  subst hb
  exact OpsFrom.one ho hw ⟨0, h⟩ hp h2

theorem op_load {rec : Task → Option Res} {o : Oper} {t : TypeId} {a : Operand} {env : Env} {st : St} {av v : AVal} (ho : o.op = .load t a) (ha : aev pol env a = some av) (hv : aload P t av st = some v) : aoper rec pol cx P env st o = some (v, st, false) := by
  unfold aoper aop
  rw [ho]
  simp only [ha, hv, quietR]

theorem op_indexAddr {rec : Task → Option Res} {o : Oper} {t : TypeId} {x ix : Operand} {env : Env} {st : St} {a i v : AVal} (ho : o.op = .indexAddr t x ix) (hx : aev pol env x = some a) (hi : aev pol env ix = some i) (hv : aindexAddr P t a i = some v) : aoper rec pol cx P env st o = some (v, st, false) := by
  unfold aoper aop
  rw [ho]
  simp only [hx, hi, hv, quietR]

theorem aload1_fptr {t : TypeId} (h : isAggT P t = some false) (tn : Bool) (x : AVal) (tail : List AVal) (st : St) : aload P t (.fptr tn (x :: tail)) st = some x := by
  unfold aload aloadCells
  have hb : Nat.ble 1 (tail.length + 1) = true := Nat.ble_eq_true_of_le (by omega)
  simp [h, hb]

theorem aloadN_fptr {t : TypeId} {n : Nat} (h : isAggT P t = some true) (hs : szT P t = some n) (tn : Bool) (pre tail : List AVal) (hp : pre.length = n) (st : St) : aload P t (.fptr tn (pre ++ tail)) st = some (.agg pre) := by
  subst hp
  unfold aload aloadCells
  have hb : Nat.ble pre.length (pre.length + tail.length) = true := Nat.ble_eq_true_of_le (by omega)
  simp [h, hs, hb]

theorem rowAt_row {h : Heap} {b : Id} {inc cur low : Nat} {data : Bool} {cells : List AVal} (hl : lkI b h = some (.row inc cur low data cells)) (off n : Nat) (hn : off + n ≤ cells.length) : rowAt h b inc cur off n = some ((cells.drop off).take n) := by
  unfold rowAt
  have hb : Nat.ble (off + n) cells.length = true := Nat.ble_eq_true_of_le hn
  simp [hl, hb]

theorem aload1_ptr {t : TypeId} (h : isAggT P t = some false) {st : St} {b : Id} {inc cur low off : Nat} {data : Bool} {cells : List AVal} {x : AVal} (hl : lkI b st.heap = some (.row inc cur low data cells)) (hx : (cells.drop off).take 1 = [x]) : aload P t (.ptr b inc cur off) st = some x := by
  have hn : off + 1 ≤ cells.length := by
    have : ((cells.drop off).take 1).length = 1 := by rw [hx]; rfl
    simp only [List.length_take, List.length_drop] at this
    omega
  unfold aload aloadCells
  simp only [h, rowAt_row hl off 1 hn, hx]

theorem aloadN_ptr {t : TypeId} {n : Nat} (h : isAggT P t = some true) (hs : szT P t = some n) {st : St} {b : Id} {inc cur low off : Nat} {data : Bool} {cells vs : List AVal} (hl : lkI b st.heap = some (.row inc cur low data cells)) (hx : (cells.drop off).take n = vs) (hv : vs.length = n) (hp : 0 < n) : aload P t (.ptr b inc cur off) st = some (.agg vs) := by
  have hn : off + n ≤ cells.length := by
    have : ((cells.drop off).take n).length = n := by rw [hx, hv]
    simp only [List.length_take, List.length_drop] at this
    omega
  unfold aload aloadCells
  simp only [h, hs, rowAt_row hl off n hn, hx, Option.map_some]

theorem op_store {rec : Task → Option Res} {o : Oper} {t : TypeId} {a x : Operand} {env : Env} {st st' : St} {av v : AVal} (ho : o.op = .store t a x) (ha : aev pol env a = some av) (hx : aev pol env x = some v) (hv : astore pol cx P t av v st = some st') : aoper rec pol cx P env st o = some (.undef, st', true) := by
  unfold aoper aop
  rw [ho]
  simp only [ha, hx, hv, storeR]

/-- A store into a variable (a row that is no slice's). -/
theorem astore_ptr {t : TypeId} {st : St} {b : Id} {inc low off : Nat} {cells : List AVal} {v : AVal} (hs : szT P t = some v.cellsOf.length) (hl : lkI b st.heap = some (.row inc inc low false cells)) (h1 : v.cellsOf.all AVal.one = true) (hn : Nat.ble (off + v.cellsOf.length) cells.length = true) :
    astore pol cx P t (.ptr b inc inc off) v st = some { st with heap := upI b (.row inc inc low false (setAt cells off v.cellsOf)) st.heap } := by
  unfold astore
  have hd : isData st.heap b = false := by unfold isData; rw [hl]
  simp [hs, h1, hd, putCells, hl, hn]

theorem aindexAddr_fsl {t elem : TypeId} {n : Nat} (hu : P.underlying t = some (.slice elem)) (hs : szT P elem = some n) {tn cxb : Bool} {len : Nat} {cells rest : List AVal} {k : IntKind} {i : Nat} (hi : i < len) (hd : cells.drop (i * n) = rest) :
    aindexAddr P t (.fsl tn cxb len cells) (.int k i) = some (.fptr tn rest) := by
  unfold aindexAddr
  subst hd
  simp only [hu, hs]
  have h1 : decide ((0 : Int) ≤ (i : Int)) = true := by simp
  have h2 : decide ((i : Int) < (len : Int)) = true := by simp [hi]
  simp [h1, h2, hi]

/-! ### calls -/
/-- The call of f at these (frozen) arguments answers r (frozen). -/
def ExCall (pol : Pol) (P : Program) (f : FuncId) (args : List AVal) (r : AVal) : Prop :=
  ∃ n v e s ids, exec pol P n (.call f args St.init) = some ⟨.val v, e, s⟩ ∧ frz false s.heap v = some (r, ids)

theorem op_call {o : Oper} {c : Call} {env : Env} {st : St} {f : FuncId} {args args' : List AVal} {r : AVal} (ho : o.op = .call c) (hb : isFnCall o.op = true) (ht : atgt pol P env st c = some (.fn f args)) (hs : (pol.shared f || pol.sorts f) = false) (hz : frzL true st.heap args [] = some (args', [])) (h : ExCall pol P f args' r) :
    ∃ n, aoper (exec pol P n) pol cx P env st o = some (r, st, false) := by
  obtain ⟨n, v, e, s, ids, h1, h2⟩ := h
  refine ⟨n, ?_⟩
  simp only [Bool.or_eq_false_iff] at hs
  obtain ⟨hs, hso⟩ := hs
  unfold aoper
  rw [ho] at hb ⊢
  obtain ⟨callee, cargs, tys⟩ := c
  cases callee with
  | builtin b => cases hb
  | value x => simp only [acall, ht, acallFn, hs, hso, cond_false, hz, h1, h2]
  | invoke x m => simp only [acall, ht, acallFn, hs, hso, cond_false, hz, h1, h2]

theorem ExCall.of_run {f : FuncId} {fn : Func} {c : Code} {args : List AVal} {o : Out} {e1 : Env} {s1 : St} {vs : List AVal} {r : AVal} {ids : List Id} (hf : P.funcs[f]? = some fn) (hb : fn.body = some c) (hn : Nat.ble args.length fn.ntmps = true)
    (h : Run pol P ⟨f, 0, fn.ntmps, none⟩ c (argEnv 0 args) { St.init with next := 0 + fn.ntmps } o e1 s1) (ho : (match o with | .norm => true | .ret => true | _ => false) = true)
    (hr : aresults P e1 s1 fn.results.toList = some vs) (hz : frz false (cond (pol.esc f) s1.heap (dropV 0 s1.heap)) (packed vs) = some (r, ids)) : ExCall pol P f args r := by
  obtain ⟨n, e, h1, h2⟩ := h
  have hr' : ∀ {l : List ResultVar} {ws : List AVal}, aresults P e1 s1 l = some ws → aresults P e s1 l = some ws := by
    intro l
    induction l with
    | nil => intro ws h; exact h
    | cons x l ih =>
      intro ws h
      simp only [aresults] at h ⊢
      cases hx : aresult P e1 s1 x with
      | none => rw [hx] at h; cases h
      | some v =>
        have hx' : aresult P e s1 x = some v := by
          cases x with
          | tmp t => exact h2 t v hx
          | cell a t =>
            simp only [aresult] at hx ⊢
            cases hl : lk a e1 with
            | none => rw [hl] at hx; cases hx
            | some p => rw [hl] at hx; rw [h2 a p hl]; exact hx
        rw [hx] at h; rw [hx']
        simp only at h ⊢
        cases hy : aresults P e1 s1 l with
        | none => rw [hy] at h; cases h
        | some us => rw [hy] at h; rw [ih hy]; exact h
  refine ⟨n + 1, packed vs, [], cond (pol.esc f) s1 { s1 with next := 0, heap := dropV 0 s1.heap }, ids, ?_, ?_⟩
  · show acallBody (exec pol P n) pol P f args St.init = _
    unfold acallBody
    simp only [hf, hb, hn, cond_true]
    have h1' : exec pol P n (.code c ⟨f, St.init.next, fn.ntmps, none⟩ (argEnv 0 args) { St.init with next := St.init.next + fn.ntmps }) = some ⟨o, e, s1⟩ := h1
    rw [h1']
    cases o with
    | norm => simp only [hr' hr]; rfl
    | ret => simp only [hr' hr]; rfl
    | _ => cases ho
  · cases he : pol.esc f with
    | true => rw [he] at hz; exact hz
    | false => rw [he] at hz; exact hz
end Go.Ax

namespace Go.Ax
set_option linter.unusedVariables false
set_option linter.unusedSimpArgs false
variable {P : Program} {pol : Pol} {cx : Cx}

/-- From place i on, in listing order, every operation is quiet. -/
def QFrom (pol : Pol) (P : Program) (cx : Cx) (ops : Array Oper) (i : Nat) (env : Env) (st : St) (env1 : Env) : Prop :=
  ∃ n items, (∀ c0, adrawSeq (exec pol P n) pol cx P ops c0 [] i none (ops.toList.drop i) env st = some (items, env1, st)) ∧ items.map (fun x => (x.o, x.i)) = (ops.toList.drop i).zipIdx i ∧ items.all (fun x => !x.loud) = true

theorem QFrom.done {ops : Array Oper} {i : Nat} (h : ops.toList.drop i = []) (env : Env) (st : St) : QFrom pol P cx ops i env st env := ⟨0, [], fun c0 => by rw [h]; rfl, by rw [h]; rfl, rfl⟩

theorem QFrom.step {ops : Array Oper} {i : Nat} {o : Oper} (ho : opAt ops i = some o) (hd : dvar P i o = none) {env e1 e2 : Env} {st s1 : St} {v : AVal}
    (h : ∃ n, adraw1 (exec pol P n) pol cx P ops env st o = some (v, s1, false)) (ha : (o.after.all fun e => !Region.binds .any e || Nat.blt e.on i) = true) (hp : aput' cx.nt o.dst v env = some e1) (h2 : QFrom pol P cx ops (i + 1) e1 st e2) : QFrom pol P cx ops i env st e2 := by
  obtain ⟨n, h⟩ := h
  obtain ⟨m, items, h2, h3, h4⟩ := h2
  refine ⟨max n m, ⟨i, o, env, v, false, s1⟩ :: items, fun c0 => ?_, ?_, ?_⟩
  · rw [drop_opAt ho]
    have h5 := adraw1_mono (exec_le (pol := pol) (P := P) (Nat.le_max_left n m)) h
    have h6 := adrawSeq_mono (exec_le (pol := pol) (P := P) (Nat.le_max_right n m)) (h2 c0)
    simp only [adrawSeq, hd, h5, ha, cond_true, Bool.not_false, Bool.true_or, hp, h6, cond_false]
  · rw [drop_opAt ho]
    simp only [List.map_cons, List.zipIdx_cons, h3]
  · simp [h4]

theorem QFrom.one {ops : Array Oper} {i : Nat} {o : Oper} (ho : opAt ops i = some o) (hd : dvar P i o = none) {env e1 e2 : Env} {st s1 : St} {v : AVal} (hw : awanted ops (pickE (o.looksAt ops) env) o = some true)
    (h : ∃ n, aoper (exec pol P n) pol cx P (pickE (o.looksAt ops) env) st o = some (v, s1, false)) (ha : (o.after.all fun e => !Region.binds .any e || Nat.blt e.on i) = true) (hp : aput' cx.nt o.dst v env = some e1) (h2 : QFrom pol P cx ops (i + 1) e1 st e2) : QFrom pol P cx ops i env st e2 := by
  obtain ⟨n, h⟩ := h
  exact QFrom.step ho hd ⟨n, by unfold adraw1; rw [hw]; exact h⟩ ha hp h2

theorem QFrom.lit {ops : Array Oper} {i : Nat} {o : Oper} (ho : opAt ops i = some o) (hd : dvar P i o = none) {env e1 e2 : Env} {st s1 : St} {b c : Bool} (hw : awanted ops (pickE (o.looksAt ops) env) o = some true)
    (h : aoper (exec pol P 0) pol cx P (pickE (o.looksAt ops) env) st o = some (.bool b, s1, false)) (hb : b = c) (ha : (o.after.all fun e => !Region.binds .any e || Nat.blt e.on i) = true) (hp : aput' cx.nt o.dst (.bool c) env = some e1) (h2 : QFrom pol P cx ops (i + 1) e1 st e2) : QFrom pol P cx ops i env st e2 := by
  subst hb
  exact QFrom.one ho hd hw ⟨0, h⟩ ha hp h2

theorem QFrom.skip {ops : Array Oper} {i : Nat} {o : Oper} (ho : opAt ops i = some o) (hd : dvar P i o = none) {env e1 e2 : Env} {st : St} (hw : awanted ops (pickE (o.looksAt ops) env) o = some false)
    (ha : (o.after.all fun e => !Region.binds .any e || Nat.blt e.on i) = true) (hp : aput' cx.nt o.dst .undef env = some e1) (h2 : QFrom pol P cx ops (i + 1) e1 st e2) : QFrom pol P cx ops i env st e2 :=
  QFrom.step ho hd ⟨0, by unfold adraw1; rw [hw]⟩ ha hp h2

def apartP (ops : Array Oper) (x y : Oper × Nat) : Bool := apartOk ops ⟨x.2, x.1, [], .undef, false, St.init⟩ ⟨y.2, y.1, [], .undef, false, St.init⟩

def apartAll (ops : Array Oper) : Bool := ops.toList.zipIdx.all fun x => ops.toList.zipIdx.all fun y => apartP ops x y

def drawnRegion : Code → Bool
  | .region _ _ draw => draw
  | _ => false

theorem Run.draw {c : Code} (hc : drawnRegion c = true) {env e1 : Env} {st st' : St} (hv : (dvars P 0 (opsOf c).toList).isEmpty = true) (hap : apartAll (opsOf c) = true) (hs : st' = { st with clock := st.clock + (opsOf c).size }) (h : QFrom pol P cx (opsOf c) 0 env st' e1) : Run pol P cx c env st .norm e1 st' := by
  cases c with
  | region id ops draw =>
    cases draw with
    | false => cases hc
    | true =>
      obtain ⟨n, items, h1, h2, h3⟩ := h
      subst hs
      refine ⟨n + 1, e1, ?_, EnvLe.refl _⟩
      show acode (exec pol P n) pol P (.region id ops true) cx env st = _
      unfold acode
      have hv0 : dvars P 0 ops.toList = [] := List.isEmpty_iff.1 hv
      have hd : adraw (exec pol P n) pol cx P ops env st = some (e1, { st with clock := st.clock + ops.size }) := by
        unfold adraw
        have h1' := h1 st.clock
        simp only [opsOf, List.drop_zero] at h1' h2
        rw [hv0]
        simp only [layVars, h1']
        have h4 : (items.all fun x => items.all fun y => apartOk ops x y) = true := by
          simp only [apartAll, List.all_eq_true] at hap
          simp only [opsOf] at hap
          have hm : ∀ x ∈ items, (x.o, x.i) ∈ ops.toList.zipIdx := fun x hx => by
            rw [← h2]
            exact List.mem_map.2 ⟨x, hx, rfl⟩
          exact List.all_eq_true.2 fun x hx => List.all_eq_true.2 fun y hy => hap _ (hm x hx) _ (hm y hy)
        have h5 : (items.any (·.loud) || !([] : List DVar).isEmpty) = false := by
          simp only [List.isEmpty_nil, Bool.not_true, Bool.or_false]
          simp only [List.all_eq_true, Bool.not_eq_true'] at h3
          simpa using h3
        rw [h4, h5]
        rfl
      simp only [cond_true, hd, opsOf]
  | _ => cases hc
end Go.Ax

namespace Go.Ax
set_option linter.unusedVariables false
set_option linter.unusedSimpArgs false
variable {P : Program} {pol : Pol} {w : World}

/-- The shape of a reading at a type of booleans, integers, strings, slices, structs. -/
def ShapeD {H : Type} (P : Program) : Nat → TypeId → DataW H → Prop
  | 0, _, _ => False
  | n + 1, t, d => match P.underlying t with
    | some .bool => ∃ b, d = .lit (.bool b)
    | some (.int k) => ∃ i, d = .lit (.int k i) ∧ (Lit.int k i).wf = true
    | some .string => ∃ s, d = .lit (.string s)
    | some (.slice e) => d = .nil ∨ ∃ es sp, d = .slice es sp ∧ ∀ x ∈ es, ShapeD P n e x
    | some (.struct fs) => ∃ ps, d = .agg ps ∧ ps.length = fs.size ∧ ∀ (j : Nat) f x, fs[j]? = some f → ps[j]? = some x → ShapeD P n f.type x
    | _ => False

theorem trod_shape {H : Type} {enc : TypeId × Value → H} {base : Nat} {spare : Nat → Bool} {held : Bool} (hsp : ∀ b, spare b = true) :
    ∀ (n : Nat) {t : TypeId}, plainT P n t = true → ∀ (fuel : Nat) {cs : List Value} {d : DataW H} {ps : List MemPlace}, DataW.trod enc P w base spare held fuel t cs = some (d, ps) → ShapeD P n t d
  | 0, t, h, _, _, _, _, _ => by cases h
  | n + 1, t, h, 0, _, _, _, hd => by cases hd
  | n + 1, t, h, fuel + 1, cs, d, ps, hd => by
    simp only [plainT] at h
    have hd0 := hd
    simp only [DataW.trod] at hd
    simp only [ShapeD]
    cases hu : P.underlying t with
    | none => rw [hu] at h; cases h
    | some td =>
      rw [hu] at h
      simp only [hu] at hd
      cases td with
      | bool =>
        rcases cs with _ | ⟨v, _ | ⟨u, r⟩⟩
        · simp at hd
        · cases v <;> simp at hd
          obtain ⟨rfl, rfl⟩ := hd
          exact ⟨_, rfl⟩
        · cases v <;> simp at hd
      | int k =>
        rcases cs with _ | ⟨v, _ | ⟨u, r⟩⟩
        · simp at hd
        · cases v <;> simp at hd
          obtain ⟨⟨rfl, hh⟩, rfl, rfl⟩ := hd
          exact ⟨_, rfl, hh⟩
        · cases v <;> simp at hd
      | string =>
        rcases cs with _ | ⟨v, _ | ⟨u, r⟩⟩
        · simp at hd
        · cases v <;> simp at hd
          obtain ⟨_, rfl, rfl⟩ := hd
          exact ⟨_, rfl⟩
        · cases v <;> simp at hd
      | struct fs =>
        simp only [Bool.and_eq_true, List.all_eq_true] at h
        obtain ⟨h1, h2⟩ := h
        obtain ⟨xs, hx0, hcl, hm⟩ := trod_struct' hu hd0
        cases hx0
        obtain ⟨m1, m2⟩ := mapM_opt hm
        refine ⟨_, rfl, by simpa using m1, fun j f x hj hx => ?_⟩
        rw [List.getElem?_map] at hx
        cases hxj : xs[j]? with
        | none => rw [hxj] at hx; cases hx
        | some y =>
          rw [hxj] at hx
          simp only [Option.map_some, Option.some.injEq] at hx
          subst hx
          have hjl : fs.toList[j]? = some f := by simpa using hj
          have := m2 j f y hjl hxj
          exact trod_shape hsp n (h2 f (List.mem_of_getElem? hjl)) fuel (d := y.1) (ps := y.2) this
      | slice e =>
        simp only [Bool.and_eq_true, beq_iff_eq] at h
        obtain ⟨h1, h2⟩ := h
        rcases cs with _ | ⟨v, _ | ⟨u, r⟩⟩
        · simp at hd
        · cases v <;> try (simp at hd; done)
          rename_i A len cap
          cases A with
          | none =>
            cases len with
            | succ => simp at hd
            | zero =>
              cases cap with
              | succ => simp at hd
              | zero =>
                simp only [Option.some.injEq, Prod.mk.injEq] at hd
                obtain ⟨rfl, rfl⟩ := hd
                exact .inl rfl
          | some a =>
            simp only at hd
            split at hd
            · rename_i hcond
              generalize hel : (fun i : Nat => (w.cells? base (a.add (i * P.cellsOf e)) (P.cellsOf e)).bind (DataW.trod enc P w base spare held fuel e)) = elemAt at hd
              have hel' : ∀ i, (w.cells? base (a.add (i * P.cellsOf e)) (P.cellsOf e)).bind (DataW.trod enc P w base spare held fuel e) = elemAt i := fun i => by rw [← hel]
              simp only [hsp, if_true, hel'] at hd
              cases hm : (List.range len).mapM elemAt with
              | none => rw [hm] at hd; simp at hd
              | some elems =>
                rw [hm] at hd
                simp only [Option.bind_some] at hd
                cases hr : (List.range (cap - len)).mapM fun j => elemAt (len + j) with
                | none => rw [hr] at hd; simp at hd
                | some rest =>
                  rw [hr] at hd
                  simp only [Option.map_some, Option.some.injEq, Prod.mk.injEq] at hd
                  obtain ⟨rfl, rfl⟩ := hd
                  obtain ⟨m1, m2⟩ := mapM_opt hm
                  refine .inr ⟨_, _, rfl, fun x hx => ?_⟩
                  obtain ⟨y, hy, rfl⟩ := List.mem_map.1 hx
                  obtain ⟨j, hj⟩ := List.mem_iff_getElem?.1 hy
                  have hjl : j < len := by
                    have := (List.getElem?_eq_some_iff.1 hj).1
                    simp only [List.length_range] at m1
                    omega
                  have h3 := m2 j j y (by rw [List.getElem?_range hjl]) hj
                  rw [← hel' j] at h3
                  cases hc : w.cells? base (a.add (j * P.cellsOf e)) (P.cellsOf e) with
                  | none => rw [hc] at h3; cases h3
                  | some cs' =>
                    rw [hc] at h3
                    simp only [Option.bind_some] at h3
                    exact trod_shape hsp n h2 fuel (d := y.1) (ps := y.2) h3
            · simp at hd
        · cases v <;> simp at hd
      | _ => cases h

/-- What an argument read so is, abstractly. -/
def argV {H : Type} (P : Program) (t : TypeId) (d : DataW H) : AVal :=
  match P.underlying t with
  | some (.struct _) => .agg (absD d)
  | _ => (absD d).headD .undef

theorem arg_fit {H : Type} {enc : TypeId × Value → H} {base base' : Nat} {spare : Nat → Bool} {held : Bool} {r : Reach} (hsp : ∀ b, spare b = true) {n : Nat} {t : TypeId} {v : Value} {d : DataW H} {ps : List MemPlace}
    (hp : plainT P n t = true) (hok : Value.okWide P w r base' t v) (hd : DataW.Trod enc P w base spare held t v d ps) : Out0 w (argV P t d) v ∧ ShapeD P n t d := by
  obtain ⟨fuel, hd⟩ := hd
  refine ⟨?_, trod_shape hsp n hp fuel hd⟩
  obtain ⟨h1, h2, _⟩ := trod_fit (ρ := fun _ _ => none) (R := fun _ => False) (T := fun _ => False) (free0 w) hsp n hp fuel hd
  have one : P.cellsOf t = 1 → v.cells = #[v] → Fit (fun _ _ => none) (fun _ => False) (fun _ => False) w ((absD d).headD .undef) v := fun hc hv => by
    rw [hc] at h2
    rw [hv] at h1
    match hx : absD d, h2 with
    | [x], _ =>
      rw [hx] at h1
      have h4 := h1.2 0 (by simp)
      simpa using h4
  cases n with
  | zero => cases hp
  | succ n =>
    simp only [plainT] at hp
    unfold argV
    cases hu : P.underlying t with
    | none => rw [hu] at hp; cases hp
    | some td =>
      rw [hu] at hp
      unfold Value.okWide at hok
      rw [hu] at hok
      cases td with
      | struct fs =>
        obtain ⟨cs, rfl, _, _⟩ := hok
        refine .agg _ _ (by simpa [Value.cells] using h1.1) fun j hj => ?_
        have h4 := h1.2 j hj
        simpa [Value.cells] using h4
      | bool =>
        simp only [beq_iff_eq] at hp
        refine one hp ?_
        cases v <;> first | rfl | simp [Cell.okWide, Cell.ok, hu] at hok
      | int k =>
        simp only [beq_iff_eq] at hp
        refine one hp ?_
        cases v <;> first | rfl | simp [Cell.okWide, Cell.ok, hu] at hok
      | string =>
        simp only [beq_iff_eq] at hp
        refine one hp ?_
        cases v <;> first | rfl | simp [Cell.okWide, Cell.ok, hu] at hok
      | slice e =>
        simp only [Bool.and_eq_true, beq_iff_eq] at hp
        refine one hp.1 ?_
        cases v <;> first | rfl | simp [Cell.okWide, Cell.ok, hu] at hok
      | _ => cases hp

theorem FitL.two {x y : AVal} {u v : Value} (h1 : Out0 w x u) (h2 : Out0 w y v) : Out0L w [x, y] [u, v] := (FitL.one h1).append (FitL.one h2)
theorem FitL.three {x y z : AVal} {u v t : Value} (h1 : Out0 w x u) (h2 : Out0 w y v) (h3 : Out0 w z t) : Out0L w [x, y, z] [u, v, t] := (FitL.one h1).append ((FitL.one h2).append (FitL.one h3))

/-- A call that answers a truth value, from outside. -/
theorem ExCall.calls (hP : Sane pol P) (hm : P.follows .mixedOrders = true) {f : FuncId} {args : List AVal} {b : Bool} (h : ExCall pol P f args (.bool b)) (hgl : ∀ g, pol.glob g = none) {xs : List Value} (hf : Out0L w args xs) :
    Calls P f xs.toArray w fun e w' => e = .returned (.bool b) ∧ RowKit.Below w.heap.size w w' := by
  obtain ⟨n, v, e, s, ids, h1, h2⟩ := h
  have hv : v = .bool b := by
    unfold frz at h2
    cases hp : v.pure with
    | true => rw [hp] at h2; cases h2; rfl
    | false =>
      rw [hp] at h2
      simp only [cond_false] at h2
      cases v with
      | bool c => cases hp
      | sl cx b inc ver off len sz =>
        unfold freeze at h2
        simp only at h2
        split at h2
        · cases h2
        · split at h2 <;> cases h2
      | iface t x =>
        unfold freeze at h2
        simp only at h2
        split at h2 <;> cases h2
      | agg cs =>
        unfold freeze at h2
        simp only at h2
        split at h2 <;> cases h2
      | tuple cs =>
        unfold freeze at h2
        simp only at h2
        split at h2 <;> cases h2
      | _ =>
        unfold freeze at h2
        simp only [hp, cond_false] at h2
        cases h2
  subst hv
  exact exec_top hP hm h1 (fun g cells hg => by rw [hgl g] at hg; cases hg) hf
end Go.Ax

namespace Go.Ax
set_option linter.unusedVariables false
open Go.ChangeShapes Go.WideShapes Go.ChangeAt Go.RowKit

theorem trodAll_below {H : Type} {enc : TypeId × Value → H} {P : Program} (hl : laidOutB P = true) {W W' : World} (hb : Below W.heap.size W W') :
    ∀ {ts : List TypeId} {vs : List Value} {ds : List (DataW H)} {ps : List MemPlace}, (ts.all fun t => P.readableRec t && Nat.blt t P.types.size) = true → DataW.TrodAll enc P W 0 (fun _ => true) true ts vs ds ps → (∀ x ∈ ps, x.block < W.heap.size) →
      DataW.TrodAll enc P W' 0 (fun b => decide (b < W.heap.size)) true ts vs ds ps
  | [], [], [], ps, _, h, _ => h
  | [], [], _ :: _, ps, _, h, _ => h.elim
  | [], _ :: _, _, ps, _, h, _ => h.elim
  | _ :: _, [], _, ps, _, h, _ => h.elim
  | _ :: _, _ :: _, [], ps, _, h, _ => h.elim
  | t :: ts, v :: vs, d :: ds, ps, hr, h, hlt => by
    obtain ⟨p, q, h1, h2, rfl⟩ := h
    simp only [List.all_cons, Bool.and_eq_true] at hr
    exact ⟨p, q, Below.trod hl hr.1.1 (by simpa using hr.1.2) h1 hb (fun x hx => hlt x (List.mem_append_left _ hx)), trodAll_below hl hb hr.2 h2 (fun x hx => hlt x (List.mem_append_right _ hx)), rfl⟩

theorem post_pure {H : Type} {enc : TypeId × Value → H} {P : Program} (hl : laidOutB P = true) {fn : Func} {s : ChangeSpec} {apart : Bool} {W W' : World} {args : Array Value} {ds gs : List (DataW H)} {before : List MemPlace} {tb : TypeId}
    (hW : DataW.Whole enc P fn.params.toList s.vars apart W args.toList ds gs before) (hvars : s.vars = []) (hfn : s.fn H (ds ++ []) = { results := [.lit (.bool true)], args := ds }) (hres : fn.resultTypes = #[tb]) (htb : P.underlying tb = some .bool)
    (hr : (fn.params.toList.all fun t => P.readableRec t && Nat.blt t P.types.size) = true) (hb : Below W.heap.size W W') : s.post enc P fn apart true false false W args (.bool true) W' := by
  have hW' := hW
  have hlt := hW.lt
  obtain ⟨p, q, hA, hV, rfl, hfz, hnd⟩ := hW
  rw [hvars] at hV
  obtain ⟨rfl, rfl⟩ := trodVars_none hV
  refine ⟨ds, [], p ++ [], [], p, [], hW', ?_, ?_, ?_, hb.frame _, fun h => by cases h⟩
  · rw [hfn, hres]
    exact trodAll_mk1 (shut_bool htb true)
  · rw [hfn]
    exact trodAll_below hl hb hr hA (fun x hx => hlt x (by simpa using hx))
  · rw [hvars, hfn]
    rfl
end Go.Ax
