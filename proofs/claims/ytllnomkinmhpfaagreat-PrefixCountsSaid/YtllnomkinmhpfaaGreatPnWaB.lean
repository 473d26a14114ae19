/- Walks on open values: a judgement 'Run' for pieces of a function's code, its rules, and 'ExCall' for whole calls. -/
import Derived.Test.YtllnomkinmhpfaaGreatPnWaA
import Derived.KernelRfl
namespace Go.Ax
set_option linter.unusedVariables false
set_option linter.unusedSimpArgs false
variable {P : Program} {pol : Pol} {cx : Cx}

/-- The piece of code at a path. -/
def sub : List Bool → Code → Code
  | [], c => c
  | b :: r, c => match c with
    | .seq x y => sub r (cond b y x)
    | .cond _ x y => sub r (cond b y x)
    | .block _ x => sub r x
    | .loop x => sub r x
    | .scope x => sub r x
    | _ => .skip

def opsOf : Code → Array Oper
  | .region _ ops _ => ops
  | _ => #[]

/-- The code, run from env and st, ends with o and st1, and its environment then holds at least env1. -/
def Run (pol : Pol) (P : Program) (cx : Cx) (c : Code) (env : Env) (st : St) (o : Out) (env1 : Env) (st1 : St) : Prop :=
  ∃ n e, exec pol P n (.code c cx env st) = some ⟨o, e, st1⟩ ∧ EnvLe env1 e

theorem exec_at {n m : Nat} (h : n ≤ m) {t : Task} {r : Res} (hr : exec pol P n t = some r) : exec pol P m t = some r := exec_le h t r hr

theorem Run.weaken {c : Code} {env : Env} {st : St} {o : Out} {e1 e0 : Env} {s1 : St} (h : Run pol P cx c env st o e1 s1) (he : EnvLe e0 e1) : Run pol P cx c env st o e0 s1 := by
  obtain ⟨n, e, h1, h2⟩ := h
  exact ⟨n, e, h1, he.trans h2⟩

theorem Run.pre {c : Code} {env env' : Env} {st : St} {o : Out} {e1 : Env} {s1 : St} (ht : tame c = true) (h : Run pol P cx c env st o e1 s1) (he : EnvLe env env') : Run pol P cx c env' st o e1 s1 := by
  obtain ⟨n, e, h1, h2⟩ := h
  obtain ⟨e', h3, h4⟩ := exec_env ht he h1
  exact ⟨n, e', h3, h2.trans h4⟩

theorem Run.skip {c : Code} (hc : c = .skip) (env : Env) (st : St) : Run pol P cx c env st .norm env st := by
  subst hc; exact ⟨1, env, rfl, EnvLe.refl _⟩
theorem Run.exit {c : Code} {id : Nat} (hc : c = .exit id) (env : Env) (st : St) : Run pol P cx c env st (.exit id) env st := by
  subst hc; exact ⟨1, env, rfl, EnvLe.refl _⟩
theorem Run.ret {c : Code} (hc : c = .ret) (env : Env) (st : St) : Run pol P cx c env st .ret env st := by
  subst hc; exact ⟨1, env, rfl, EnvLe.refl _⟩

theorem Run.seq {c a b : Code} (hc : c = .seq a b) (ht : tame b = true) {env e1 e2 : Env} {st s1 s2 : St} {o : Out} (h1 : Run pol P cx a env st .norm e1 s1) (h2 : Run pol P cx b e1 s1 o e2 s2) : Run pol P cx c env st o e2 s2 := by
  subst hc
  obtain ⟨n, e, ha, he⟩ := h1
  obtain ⟨m, e', hb, he'⟩ := h2.pre ht he
  refine ⟨max n m + 1, e', ?_, he'⟩
  show acode (exec pol P (max n m)) pol P (.seq a b) cx env st = _
  unfold acode
  simp only [exec_at (Nat.le_max_left n m) ha, exec_at (Nat.le_max_right n m) hb]

def Out.isNorm : Out → Bool
  | .norm => true
  | _ => false

theorem Run.seqOut {c a b : Code} (hc : c = .seq a b) {env e1 : Env} {st s1 : St} {o : Out} (ho : o.isNorm = false) (h1 : Run pol P cx a env st o e1 s1) : Run pol P cx c env st o e1 s1 := by
  subst hc
  obtain ⟨n, e, ha, he⟩ := h1
  refine ⟨n + 1, e, ?_, he⟩
  show acode (exec pol P n) pol P (.seq a b) cx env st = _
  unfold acode
  simp only [ha]
  cases o <;> first | rfl | cases ho

theorem Run.cond {c a b : Code} {x : Operand} {t : Bool} (hc : c = .cond x a b) {env e1 : Env} {st s1 : St} {o : Out} (hx : aev pol env x = some (.bool t)) (h1 : Run pol P cx (cond t a b) env st o e1 s1) : Run pol P cx c env st o e1 s1 := by
  subst hc
  obtain ⟨n, e, ha, he⟩ := h1
  refine ⟨n + 1, e, ?_, he⟩
  show acode (exec pol P n) pol P (.cond x a b) cx env st = _
  unfold acode
  simp only [hx, ha]

/-- A block hands on what is no exit of its own. -/
def Out.leaves (id : Nat) : Out → Bool
  | .exit id' => !(id' == id)
  | _ => true

theorem Run.block {c a : Code} {id : Nat} (hc : c = .block id a) {env e1 : Env} {st s1 : St} {o : Out} (ho : o.leaves id = true) (h1 : Run pol P cx a env st o e1 s1) : Run pol P cx c env st o e1 s1 := by
  subst hc
  obtain ⟨n, e, ha, he⟩ := h1
  refine ⟨n + 1, e, ?_, he⟩
  show acode (exec pol P n) pol P (.block id a) cx env st = _
  unfold acode
  simp only [ha]
  cases o with
  | exit id' =>
    simp only [Out.leaves, Bool.not_eq_true'] at ho
    simp only [ho, cond_false]
  | _ => rfl

theorem Run.blockExit {c a : Code} {id : Nat} (hc : c = .block id a) {env e1 : Env} {st s1 : St} (h1 : Run pol P cx a env st (.exit id) e1 s1) : Run pol P cx c env st .norm e1 s1 := by
  subst hc
  obtain ⟨n, e, ha, he⟩ := h1
  refine ⟨n + 1, e, ?_, he⟩
  show acode (exec pol P n) pol P (.block id a) cx env st = _
  unfold acode
  simp only [ha, beq_self_eq_true, cond_true]

theorem Run.loop {c a : Code} (hc : c = .loop a) (ht : tame a = true) {env e1 e2 : Env} {st s1 s2 : St} {o : Out} (h1 : Run pol P cx a env st .norm e1 s1) (h2 : Run pol P cx c e1 s1 o e2 s2) : Run pol P cx c env st o e2 s2 := by
  subst hc
  obtain ⟨n, e, ha, he⟩ := h1
  obtain ⟨m, e', hb, he'⟩ := h2.pre (by exact ht) he
  refine ⟨max n m + 1, e', ?_, he'⟩
  show acode (exec pol P (max n m)) pol P (.loop a) cx env st = _
  unfold acode
  simp only [exec_at (Nat.le_max_left n m) ha, exec_at (Nat.le_max_right n m) hb]

theorem Run.loopOut {c a : Code} (hc : c = .loop a) {env e1 : Env} {st s1 : St} {o : Out} (ho : o.isNorm = false) (h1 : Run pol P cx a env st o e1 s1) : Run pol P cx c env st o e1 s1 := by
  subst hc
  obtain ⟨n, e, ha, he⟩ := h1
  refine ⟨n + 1, e, ?_, he⟩
  show acode (exec pol P n) pol P (.loop a) cx env st = _
  unfold acode
  simp only [ha]
  cases o <;> first | rfl | cases ho

theorem Run.scope {c a : Code} (hc : c = .scope a) {env e1 : Env} {st s1 : St} {o : Out} (ho : (match o with | .goto _ => false | _ => true) = true) (h1 : Run pol P cx a env st o e1 s1) : Run pol P cx c env st o e1 s1 := by
  subst hc
  obtain ⟨n, e, ha, he⟩ := h1
  refine ⟨n + 1, e, ?_, he⟩
  show acode (exec pol P n) pol P (.scope a) cx env st = _
  unfold acode
  simp only [ha]
  cases o <;> first | rfl | cases ho

/-! ### regions -/
def OpsFrom (pol : Pol) (P : Program) (cx : Cx) (ops : Array Oper) (i : Nat) (env : Env) (st : St) (env1 : Env) (st1 : St) : Prop :=
  ∃ n, aops (exec pol P n) pol cx P ops (ops.toList.drop i) env st = some (env1, st1)

def plainRegion : Code → Bool
  | .region _ _ draw => !draw
  | _ => false

theorem Run.region {c : Code} (hc : plainRegion c = true) {env e1 : Env} {st s1 : St} (h : OpsFrom pol P cx (opsOf c) 0 env st e1 s1) : Run pol P cx c env st .norm e1 s1 := by
  cases c with
  | region id ops draw =>
    cases draw with
    | true => cases hc
    | false =>
      obtain ⟨n, h⟩ := h
      refine ⟨n + 1, e1, ?_, EnvLe.refl _⟩
      show acode (exec pol P n) pol P (.region id ops false) cx env st = _
      unfold acode
      simp only [opsOf, List.drop_zero] at h
      simp only [cond_false, h]
  | _ => cases hc

theorem OpsFrom.done {ops : Array Oper} {i : Nat} (h : ops.toList.drop i = []) (env : Env) (st : St) : OpsFrom pol P cx ops i env st env st := ⟨0, by rw [h]; rfl⟩

theorem aops_append {rec : Task → Option Res} {ops : Array Oper} : ∀ {l m : List Oper} {env e1 : Env} {st s1 : St}, aops rec pol cx P ops l env st = some (e1, s1) → aops rec pol cx P ops (l ++ m) env st = aops rec pol cx P ops m e1 s1
  | [], m, env, e1, st, s1, h => by cases h; rfl
  | o :: l, m, env, e1, st, s1, h => by
    simp only [aops, List.cons_append] at h ⊢
    cases hw : awanted ops env o with
    | none => rw [hw] at h; cases h
    | some t =>
      rw [hw] at h
      cases t with
      | false =>
        simp only at h ⊢
        cases hp : aput' cx.nt o.dst .undef env with
        | none => rw [hp] at h; cases h
        | some e => rw [hp] at h; exact aops_append h
      | true =>
        simp only at h ⊢
        cases ho : aoper rec pol cx P env st o with
        | none => rw [ho] at h; cases h
        | some q =>
          rw [ho] at h
          obtain ⟨v, s2, tch⟩ := q
          simp only at h ⊢
          cases hp : aput' cx.nt o.dst v env with
          | none => rw [hp] at h; cases h
          | some e => rw [hp] at h; exact aops_append h

theorem OpsFrom.seg {ops : Array Oper} {i : Nat} (k : Nat) {env e1 e2 : Env} {st s1 s2 : St} (h : aops (exec pol P 0) pol cx P ops ((ops.toList.drop i).take k) env st = some (e1, s1)) (h2 : OpsFrom pol P cx ops (i + k) e1 s1 e2 s2) : OpsFrom pol P cx ops i env st e2 s2 := by
  obtain ⟨n, h2⟩ := h2
  refine ⟨n, ?_⟩
  have h3 := aops_mono (exec_le (pol := pol) (P := P) (Nat.zero_le n)) h
  rw [← List.take_append_drop k (ops.toList.drop i), aops_append h3, List.drop_drop]
  exact h2

def opAt (ops : Array Oper) (i : Nat) : Option Oper := (ops.toList.drop i).head?

theorem drop_opAt {ops : Array Oper} {i : Nat} {o : Oper} (h : opAt ops i = some o) : ops.toList.drop i = o :: ops.toList.drop (i + 1) := by
  unfold opAt at h
  cases hd : ops.toList.drop i with
  | nil => rw [hd] at h; cases h
  | cons x r =>
    rw [hd] at h
    cases h
    rw [← List.drop_drop, hd]
    rfl

/-- One operation, by its own fact. -/
theorem OpsFrom.one {ops : Array Oper} {i : Nat} {o : Oper} (ho : opAt ops i = some o) {env e1 e2 : Env} {st s1 s2 : St} {v : AVal} {tch : Bool} (hw : awanted ops env o = some true)
    (h : ∃ n, aoper (exec pol P n) pol cx P env st o = some (v, s1, tch)) (hp : aput' cx.nt o.dst v env = some e1) (h2 : OpsFrom pol P cx ops (i + 1) e1 s1 e2 s2) : OpsFrom pol P cx ops i env st e2 s2 := by
  obtain ⟨n, h⟩ := h
  obtain ⟨m, h2⟩ := h2
  refine ⟨max n m, ?_⟩
  rw [drop_opAt ho]
  simp only [aops, hw]
  have h3 := aoper_mono (exec_le (pol := pol) (P := P) (Nat.le_max_left n m)) h
  have h4 := aops_mono (exec_le (pol := pol) (P := P) (Nat.le_max_right n m)) h2
  simp only [h3, hp, h4]

/-- One operation that answers a truth value known by a hypothesis. -/
theorem OpsFrom.lit {ops : Array Oper} {i : Nat} {o : Oper} (ho : opAt ops i = some o) {env e1 e2 : Env} {st s1 s2 : St} {b c : Bool} {tch : Bool} (hw : awanted ops env o = some true)
    (h : aoper (exec pol P 0) pol cx P env st o = some (.bool b, s1, tch)) (hb : b = c) (hp : aput' cx.nt o.dst (.bool c) env = some e1) (h2 : OpsFrom pol P cx ops (i + 1) e1 s1 e2 s2) : OpsFrom pol P cx ops i env st e2 s2 := by
  subst hb
  exact OpsFrom.one ho hw ⟨0, h⟩ hp h2

theorem op_load {rec : Task → Option Res} {o : Oper} {t : TypeId} {a : Operand} {env : Env} {st : St} {av v : AVal} (ho : o.op = .load t a) (ha : aev pol env a = some av) (hv : aload P t av st = some v) : aoper rec pol cx P env st o = some (v, st, false) := by
  unfold aoper aop
  rw [ho]
  simp only [ha, hv, quietR]

theorem op_indexAddr {rec : Task → Option Res} {o : Oper} {t : TypeId} {x ix : Operand} {env : Env} {st : St} {a i v : AVal} (ho : o.op = .indexAddr t x ix) (hx : aev pol env x = some a) (hi : aev pol env ix = some i) (hv : aindexAddr P t a i = some v) : aoper rec pol cx P env st o = some (v, st, false) := by
  unfold aoper aop
  rw [ho]
  simp only [hx, hi, hv, quietR]

theorem aload1_fptr {t : TypeId} (h : isAggT P t = some false) (tn : Bool) (x : AVal) (tail : List AVal) (st : St) : aload P t (.fptr tn (x :: tail)) st = some x := by
  unfold aload aloadCells
  have hb : Nat.ble 1 (tail.length + 1) = true := Nat.ble_eq_true_of_le (by omega)
  simp [h, hb]

theorem aloadN_fptr {t : TypeId} {n : Nat} (h : isAggT P t = some true) (hs : szT P t = some n) (tn : Bool) (pre tail : List AVal) (hp : pre.length = n) (st : St) : aload P t (.fptr tn (pre ++ tail)) st = some (.agg pre) := by
  subst hp
  unfold aload aloadCells
  have hb : Nat.ble pre.length (pre.length + tail.length) = true := Nat.ble_eq_true_of_le (by omega)
  simp [h, hs, hb]

theorem rowAt_row {h : Heap} {b : Id} {inc cur low : Nat} {data : Bool} {cells : List AVal} (hl : lkI b h = some (.row inc cur low data cells)) (off n : Nat) (hn : off + n ≤ cells.length) : rowAt h b inc cur off n = some ((cells.drop off).take n) := by
  unfold rowAt
  have hb : Nat.ble (off + n) cells.length = true := Nat.ble_eq_true_of_le hn
  simp [hl, hb]

theorem aload1_ptr {t : TypeId} (h : isAggT P t = some false) {st : St} {b : Id} {inc cur low off : Nat} {data : Bool} {cells : List AVal} {x : AVal} (hl : lkI b st.heap = some (.row inc cur low data cells)) (hx : (cells.drop off).take 1 = [x]) : aload P t (.ptr b inc cur off) st = some x := by
  have hn : off + 1 ≤ cells.length := by
    have : ((cells.drop off).take 1).length = 1 := by rw [hx]; rfl
    simp only [List.length_take, List.length_drop] at this
    omega
  unfold aload aloadCells
  simp only [h, rowAt_row hl off 1 hn, hx]

theorem aloadN_ptr {t : TypeId} {n : Nat} (h : isAggT P t = some true) (hs : szT P t = some n) {st : St} {b : Id} {inc cur low off : Nat} {data : Bool} {cells vs : List AVal} (hl : lkI b st.heap = some (.row inc cur low data cells)) (hx : (cells.drop off).take n = vs) (hv : vs.length = n) (hp : 0 < n) : aload P t (.ptr b inc cur off) st = some (.agg vs) := by
  have hn : off + n ≤ cells.length := by
    have : ((cells.drop off).take n).length = n := by rw [hx, hv]
    simp only [List.length_take, List.length_drop] at this
    omega
  unfold aload aloadCells
  simp only [h, hs, rowAt_row hl off n hn, hx, Option.map_some]

theorem op_store {rec : Task → Option Res} {o : Oper} {t : TypeId} {a x : Operand} {env : Env} {st st' : St} {av v : AVal} (ho : o.op = .store t a x) (ha : aev pol env a = some av) (hx : aev pol env x = some v) (hv : astore pol cx P t av v st = some st') : aoper rec pol cx P env st o = some (.undef, st', true) := by
  unfold aoper aop
  rw [ho]
  simp only [ha, hx, hv, storeR]

/-- A store into a variable (a row that is no slice's). -/
theorem astore_ptr {t : TypeId} {st : St} {b : Id} {inc low off : Nat} {cells : List AVal} {v : AVal} (hs : szT P t = some v.cellsOf.length) (hl : lkI b st.heap = some (.row inc inc low false cells)) (h1 : v.cellsOf.all AVal.one = true) (hn : Nat.ble (off + v.cellsOf.length) cells.length = true) :
    astore pol cx P t (.ptr b inc inc off) v st = some { st with heap := upI b (.row inc inc low false (setAt cells off v.cellsOf)) st.heap } := by
  unfold astore
  have hd : isData st.heap b = false := by unfold isData; rw [hl]
  simp [hs, h1, hd, putCells, hl, hn]

theorem aindexAddr_fsl {t elem : TypeId} {n : Nat} (hu : P.underlying t = some (.slice elem)) (hs : szT P elem = some n) {tn cxb : Bool} {len : Nat} {cells rest : List AVal} {k : IntKind} {i : Nat} (hi : i < len) (hd : cells.drop (i * n) = rest) :
    aindexAddr P t (.fsl tn cxb len cells) (.int k i) = some (.fptr tn rest) := by
  unfold aindexAddr
  subst hd
  simp only [hu, hs]
  have h1 : decide ((0 : Int) ≤ (i : Int)) = true := by simp
  have h2 : decide ((i : Int) < (len : Int)) = true := by simp [hi]
  simp [h1, h2, hi]

/-! ### calls -/
/-- The call of f at these (frozen) arguments answers r (frozen). -/
def ExCall (pol : Pol) (P : Program) (f : FuncId) (args : List AVal) (r : AVal) : Prop :=
  ∃ n v e s ids, exec pol P n (.call f args St.init) = some ⟨.val v, e, s⟩ ∧ frz false s.heap v = some (r, ids)

theorem op_call {o : Oper} {c : Call} {env : Env} {st : St} {f : FuncId} {args args' : List AVal} {r : AVal} (ho : o.op = .call c) (hb : isFnCall o.op = true) (ht : atgt pol P env st c = some (.fn f args)) (hs : pol.shared f = false) (hz : frzL true st.heap args [] = some (args', [])) (h : ExCall pol P f args' r) :
    ∃ n, aoper (exec pol P n) pol cx P env st o = some (r, st, false) := by
  obtain ⟨n, v, e, s, ids, h1, h2⟩ := h
  refine ⟨n, ?_⟩
  unfold aoper
  rw [ho] at hb ⊢
  obtain ⟨callee, cargs, tys⟩ := c
  cases callee with
  | builtin b => cases hb
  | value x => simp only [acall, ht, acallFn, hs, cond_false, hz, h1, h2]
  | invoke x m => simp only [acall, ht, acallFn, hs, cond_false, hz, h1, h2]

theorem ExCall.of_run {f : FuncId} {fn : Func} {c : Code} {args : List AVal} {o : Out} {e1 : Env} {s1 : St} {vs : List AVal} {r : AVal} {ids : List Id} (hf : P.funcs[f]? = some fn) (hb : fn.body = some c) (hn : Nat.ble args.length fn.ntmps = true)
    (h : Run pol P ⟨f, 0, fn.ntmps, none⟩ c (argEnv 0 args) { St.init with next := 0 + fn.ntmps } o e1 s1) (ho : (match o with | .norm => true | .ret => true | _ => false) = true)
    (hr : aresults P e1 s1 fn.results.toList = some vs) (hz : frz false (cond (pol.esc f) s1.heap (dropV 0 s1.heap)) (packed vs) = some (r, ids)) : ExCall pol P f args r := by
  obtain ⟨n, e, h1, h2⟩ := h
  have hr' : ∀ {l : List ResultVar} {ws : List AVal}, aresults P e1 s1 l = some ws → aresults P e s1 l = some ws := by
    intro l
    induction l with
    | nil => intro ws h; exact h
    | cons x l ih =>
      intro ws h
      simp only [aresults] at h ⊢
      cases hx : aresult P e1 s1 x with
      | none => rw [hx] at h; cases h
      | some v =>
        have hx' : aresult P e s1 x = some v := by
          cases x with
          | tmp t => exact h2 t v hx
          | cell a t =>
            simp only [aresult] at hx ⊢
            cases hl : lk a e1 with
            | none => rw [hl] at hx; cases hx
            | some p => rw [hl] at hx; rw [h2 a p hl]; exact hx
        rw [hx] at h; rw [hx']
        simp only at h ⊢
        cases hy : aresults P e1 s1 l with
        | none => rw [hy] at h; cases h
        | some us => rw [hy] at h; rw [ih hy]; exact h
  refine ⟨n + 1, packed vs, [], cond (pol.esc f) s1 { s1 with next := 0, heap := dropV 0 s1.heap }, ids, ?_, ?_⟩
  · show acallBody (exec pol P n) pol P f args St.init = _
    unfold acallBody
    simp only [hf, hb, hn, cond_true]
    have h1' : exec pol P n (.code c ⟨f, St.init.next, fn.ntmps, none⟩ (argEnv 0 args) { St.init with next := St.init.next + fn.ntmps }) = some ⟨o, e, s1⟩ := h1
    rw [h1']
    cases o with
    | norm => simp only [hr' hr]; rfl
    | ret => simp only [hr' hr]; rfl
    | _ => cases ho
  · cases he : pol.esc f with
    | true => rw [he] at hz; exact hz
    | false => rw [he] at hz; exact hz
end Go.Ax
