/- More fuel changes nothing. -/
import Derived.Test.YtllnomkinmhpfaaGreatPnAyK
namespace Go.Ax
set_option linter.unusedVariables false
set_option linter.unusedSimpArgs false
variable {P : Program} {pol : Pol}

def RecLe (f g : Task → Option Res) : Prop := ∀ t r, f t = some r → g t = some r

section
variable {f g : Task → Option Res} (hle : RecLe f g)
include hle

theorem acallShared_mono {fn : FuncId} {args : List AVal} {st : St} {r : OpR} (h : acallShared f fn args st = some r) : acallShared g fn args st = some r := by
  unfold acallShared at *
  cases h1 : f (.call fn args st) with
  | none => rw [h1] at h; cases h
  | some p => rw [h1] at h; rw [hle _ _ h1]; exact h

theorem acallFn_mono {fn : FuncId} {args : List AVal} {st : St} {r : OpR} (h : acallFn f pol fn args st = some r) : acallFn g pol fn args st = some r := by
  unfold acallFn at *
  cases hs : pol.shared fn with
  | true => rw [hs] at h; exact acallShared_mono hle h
  | false =>
    rw [hs] at h
    simp only [cond_false] at h ⊢
    cases hz : frzL true st.heap args [] with
    | none => rw [hz] at h; exact acallShared_mono hle h
    | some p =>
      obtain ⟨a, ids⟩ := p
      rw [hz] at h
      simp only at h ⊢
      cases h1 : f (.call fn a St.init) with
      | none => rw [h1] at h; cases h
      | some p => rw [h1] at h; rw [hle _ _ h1]; exact h

theorem around_mono {b : Id} {inc : Nat} {args : List AVal} {st : St} {r : OpR} (h : around f b inc args st = some r) : around g b inc args st = some r := by
  unfold around at *
  split at h
  · rename_i inc' pd fn base nt env params assign body hl
    try rw [hl]
    simp only at h ⊢
    cases hc : (inc' == inc && args.length == params.length && params.all fun t => Nat.blt t nt) with
    | false => rw [hc] at h; cases h
    | true =>
      rw [hc] at h
      simp only [cond_true] at h ⊢
      cases h1 : f (.code assign ⟨fn, base, nt, some (b, inc)⟩ (setParams params args env) st) with
      | none => rw [h1] at h; cases h
      | some p =>
        rw [h1] at h
        rw [hle _ _ h1]
        obtain ⟨o, e1, s1⟩ := p
        cases o with
        | exit | goto | ret | val => cases h
        | norm =>
          simp only at h ⊢
          split at h
          · rename_i inc1 pd1 fn1 base1 nt1 envL params1 assign1 body1 hl1
            try rw [hl1]
            try simp only at h ⊢
            cases hc1 : (inc1 == inc) with
            | false => rw [hc1] at h; cases h
            | true =>
              rw [hc1] at h
              simp only [cond_true] at h ⊢
              cases h2 : f (.code body ⟨fn, base, nt, some (b, inc)⟩ e1 { s1 with heap := upI b (.loop inc1 .busy pd1 fn1 base1 nt1 envL params1 assign1 body1) s1.heap }) with
              | none => rw [h2] at h; cases h
              | some p => rw [h2] at h; rw [hle _ _ h2]; exact h
          · cases h
  · cases h

theorem acall_mono {env : Env} {st : St} {c : Call} {r : OpR} (h : acall f pol P env st c = some r) : acall g pol P env st c = some r := by
  unfold acall at *
  cases ht : atgt pol P env st c with
  | none => rw [ht] at h; cases h
  | some t =>
    rw [ht] at h
    cases t with
    | fn k args => exact acallFn_mono hle h
    | yld b inc args => exact around_mono hle h

theorem aoper_mono {cx : Cx} {env : Env} {st : St} {o : Oper} {r : OpR} (h : aoper f pol cx P env st o = some r) : aoper g pol cx P env st o = some r := by
  unfold aoper at *
  cases ho : o.op with
  | call c =>
    rw [ho] at h
    simp only at h ⊢
    cases hb : c.callee with
    | builtin b => rw [hb] at h; exact h
    | value x => rw [hb] at h; exact acall_mono hle h
    | invoke x n => rw [hb] at h; exact acall_mono hle h
  | _ => rw [ho] at h; exact h

theorem aops_mono {cx : Cx} {ops : Array Oper} : ∀ {l : List Oper} {env : Env} {st : St} {r : Env × St}, aops f pol cx P ops l env st = some r → aops g pol cx P ops l env st = some r
  | [], env, st, r, h => h
  | o :: l, env, st, r, h => by
    simp only [aops] at h ⊢
    cases hw : awanted ops env o with
    | none => rw [hw] at h; cases h
    | some t =>
      rw [hw] at h
      cases t with
      | false =>
        simp only at h ⊢
        cases hp : aput' cx.nt o.dst .undef env with
        | none => rw [hp] at h; cases h
        | some e => rw [hp] at h; exact aops_mono h
      | true =>
        simp only at h ⊢
        cases ho : aoper f pol cx P env st o with
        | none => rw [ho] at h; cases h
        | some q =>
          rw [ho] at h
          rw [aoper_mono hle ho]
          obtain ⟨v, s1, tch⟩ := q
          simp only at h ⊢
          cases hp : aput' cx.nt o.dst v env with
          | none => rw [hp] at h; cases h
          | some e => rw [hp] at h; exact aops_mono h

theorem adraw1_mono {cx : Cx} {ops : Array Oper} {env : Env} {st : St} {o : Oper} {r : OpR} (h : adraw1 f pol cx P ops env st o = some r) : adraw1 g pol cx P ops env st o = some r := by
  unfold adraw1 at *
  cases hw : awanted ops (pickE (o.looksAt ops) env) o with
  | none => rw [hw] at h; cases h
  | some t =>
    rw [hw] at h
    cases t with
    | false => exact h
    | true => exact aoper_mono hle h

omit hle in
theorem lackAll_mono {ops : Array Oper} {x : DItem} {p q : List DVar → Bool} (hpq : ∀ un, p un = true → q un = true) : ∀ {l un : List DVar}, lackAll ops x p l un = true → lackAll ops x q l un = true
  | [], un, h => hpq un h
  | y :: r, un, h => by
    simp only [lackAll, Bool.and_eq_true, Bool.or_eq_true] at h ⊢
    exact ⟨h.1.imp id (lackAll_mono hpq), h.2.imp id (lackAll_mono hpq)⟩

theorem loudAt_mono {cx : Cx} {ops : Array Oper} {x : DItem} {st : St} : ∀ {un : List DVar}, loudAt f pol cx P ops x st un = true → loudAt g pol cx P ops x st un = true
  | [], _ => rfl
  | y :: r, h => by
    simp only [loudAt] at h ⊢
    cases h1 : adraw1 f pol cx P ops x.env (lackOf cx (y :: r) st) x.o with
    | none => rw [h1] at h; cases h
    | some p => rw [h1] at h; rw [adraw1_mono hle h1]; exact h

theorem loudOk_mono {cx : Cx} {ops : Array Oper} {c0 : Nat} {vars : List DVar} {x : DItem} {st : St} (h : loudOk f pol cx P ops c0 vars x st = true) : loudOk g pol cx P ops c0 vars x st = true := by
  simp only [loudOk, Bool.and_eq_true] at h ⊢
  exact ⟨h.1, lackAll_mono (fun un => loudAt_mono hle) h.2⟩

theorem adrawSeq_mono {cx : Cx} {ops : Array Oper} {c0 : Nat} {vars : List DVar} : ∀ {l : List Oper} {i : Nat} {last : Option Nat} {env : Env} {st : St} {r : List DItem × Env × St}, adrawSeq f pol cx P ops c0 vars i last l env st = some r → adrawSeq g pol cx P ops c0 vars i last l env st = some r
  | [], i, last, env, st, r, h => h
  | o :: l, i, last, env, st, r, h => by
    rw [adrawSeq_cons] at h ⊢
    cases hq : adrawV f pol cx P ops c0 i env st o with
    | none => rw [hq] at h; cases h
    | some q =>
      have hq' : adrawV g pol cx P ops c0 i env st o = some q := by
        unfold adrawV at *
        cases hd : dvar P i o with
        | some x => rw [hd] at hq; exact hq
        | none => rw [hd] at hq; exact adraw1_mono hle hq
      rw [hq] at h
      rw [hq']
      obtain ⟨v, s1, loud⟩ := q
      simp only at h ⊢
      cases h1 : (o.after.all fun e => !Region.binds .any e || Nat.blt e.on i) with
      | false => rw [h1] at h; cases h
      | true =>
        rw [h1] at h
        simp only [cond_true] at h ⊢
        cases h2 : (!loud || (loudOk f pol cx P ops c0 vars ⟨i, o, env, v, loud, s1⟩ st && lastOk ops o last)) with
        | false => rw [h2] at h; cases h
        | true =>
          have h2' : (!loud || (loudOk g pol cx P ops c0 vars ⟨i, o, env, v, loud, s1⟩ st && lastOk ops o last)) = true := by
            simp only [Bool.or_eq_true, Bool.and_eq_true] at h2 ⊢
            exact h2.imp id fun h2 => ⟨loudOk_mono hle h2.1, h2.2⟩
          rw [h2] at h
          rw [h2']
          simp only [cond_true] at h ⊢
          cases hp : aput' cx.nt o.dst v env with
          | none => rw [hp] at h; cases h
          | some e =>
            rw [hp] at h
            simp only at h ⊢
            cases hr : adrawSeq f pol cx P ops c0 vars (i + 1) (cond loud (some i) last) l e (cond loud s1 st) with
            | none => rw [hr] at h; cases h
            | some p => rw [hr] at h; rw [adrawSeq_mono hr]; exact h

theorem sameAt_mono {cx : Cx} {ops : Array Oper} {x : DItem} {st : St} (h : sameAt f pol cx P ops x st = true) : sameAt g pol cx P ops x st = true := by
  unfold sameAt at *
  cases h1 : adraw1 f pol cx P ops x.env st x.o with
  | none => rw [h1] at h; cases h
  | some p => rw [h1] at h; rw [adraw1_mono hle h1]; exact h

theorem quietOk_mono {cx : Cx} {ops : Array Oper} {items : List DItem} {vars : List DVar} {st : St} {x : DItem} (h : quietOk f pol cx P ops items vars st x = true) : quietOk g pol cx P ops items vars st x = true := by
  unfold quietOk at *
  simp only [Bool.or_eq_true, Bool.and_eq_true, List.all_eq_true] at h ⊢
  exact h.imp id fun h => ⟨h.1.imp id (lackAll_mono fun un => sameAt_mono hle), fun y hy => (h.2 y hy).imp id fun h => h.imp id (lackAll_mono fun un => sameAt_mono hle)⟩

theorem adraw_mono {cx : Cx} {ops : Array Oper} {env : Env} {st : St} {r : Env × St} (h : adraw f pol cx P ops env st = some r) : adraw g pol cx P ops env st = some r := by
  unfold adraw at *
  simp only at h ⊢
  cases hs : adrawSeq f pol cx P ops st.clock (dvars P 0 ops.toList) 0 none ops.toList env { st with clock := st.clock + ops.size, heap := layVars cx st.clock (dvars P 0 ops.toList) st.heap } with
  | none => rw [hs] at h; cases h
  | some p =>
    obtain ⟨items, e1, s1⟩ := p
    rw [hs] at h
    rw [adrawSeq_mono hle hs]
    simp only at h ⊢
    cases h1 : (items.all fun x => items.all fun y => apartOk ops x y) with
    | false => rw [h1] at h; cases h
    | true =>
      rw [h1] at h
      simp only [cond_true] at h ⊢
      cases h2 : (items.any (·.loud) || !(dvars P 0 ops.toList).isEmpty) with
      | false => rw [h2] at h; exact h
      | true =>
        rw [h2] at h
        simp only [cond_true] at h ⊢
        cases h3 : (items.all fun x => quietOk f pol cx P ops items (dvars P 0 ops.toList) { st with clock := st.clock + ops.size, heap := layVars cx st.clock (dvars P 0 ops.toList) st.heap } x) with
        | false => rw [h3] at h; cases h
        | true =>
          have : (items.all fun x => quietOk g pol cx P ops items (dvars P 0 ops.toList) { st with clock := st.clock + ops.size, heap := layVars cx st.clock (dvars P 0 ops.toList) st.heap } x) = true :=
            List.all_eq_true.2 fun x hx => quietOk_mono hle (List.all_eq_true.1 h3 x hx)
          rw [this]
          rw [h3] at h
          exact h

theorem arange_mono {cx : Cx} {env : Env} {st : St} {x : Operand} {params : Array Tmp} {assign body : Code} {r : Res} (h : arange f pol cx env st x params assign body = some r) : arange g pol cx env st x params assign body = some r := by
  unfold arange at *
  split at h
  · rename_i gf first captured p0 ps hgv hps
    try rw [hgv, hps]
    simp only at h ⊢
    cases hro : roundOk cx st with
    | false => rw [hro] at h; cases h
    | true =>
      rw [hro] at h
      simp only [cond_true] at h ⊢
      generalize hT : Task.call gf (first ++ [.yld (.v (cx.base + p0)) st.clock] ++ captured) _ = t at h ⊢
      cases h1 : f t with
      | none => rw [h1] at h; cases h
      | some p => rw [h1] at h; rw [hle _ _ h1]; exact h
  · cases h

theorem acode_mono {c : Code} {cx : Cx} {env : Env} {st : St} {r : Res} (h : acode f pol P c cx env st = some r) : acode g pol P c cx env st = some r := by
  unfold acode at *
  cases c with
  | skip | label | exit | goto | ret => exact h
  | refuse => cases h
  | seq a b =>
    simp only at h ⊢
    cases h1 : f (.code a cx env st) with
    | none => rw [h1] at h; cases h
    | some p =>
      rw [h1] at h
      rw [hle _ _ h1]
      obtain ⟨o, e, s⟩ := p
      cases o with
      | norm => exact hle _ _ h
      | _ => exact h
  | cond x a b =>
    simp only at h ⊢
    cases h1 : aev pol env x with
    | none => rw [h1] at h; cases h
    | some v =>
      rw [h1] at h
      cases v with
      | bool t => exact hle _ _ h
      | _ => cases h
  | block id a =>
    simp only at h ⊢
    cases h1 : f (.code a cx env st) with
    | none => rw [h1] at h; cases h
    | some p => rw [h1] at h; rw [hle _ _ h1]; exact h
  | loop a =>
    simp only at h ⊢
    cases h1 : f (.code a cx env st) with
    | none => rw [h1] at h; cases h
    | some p =>
      rw [h1] at h
      rw [hle _ _ h1]
      obtain ⟨o, e, s⟩ := p
      cases o with
      | norm => exact hle _ _ h
      | _ => exact h
  | scope a =>
    simp only at h ⊢
    cases h1 : f (.code a cx env st) with
    | none => rw [h1] at h; cases h
    | some p => rw [h1] at h; rw [hle _ _ h1]; exact h
  | region id ops draw =>
    simp only at h ⊢
    cases draw with
    | true =>
      simp only [cond_true] at h ⊢
      cases h1 : adraw f pol cx P ops env st with
      | none => rw [h1] at h; cases h
      | some p => rw [h1] at h; rw [adraw_mono hle h1]; exact h
    | false =>
      simp only [cond_false] at h ⊢
      cases h1 : aops f pol cx P ops ops.toList env st with
      | none => rw [h1] at h; cases h
      | some p => rw [h1] at h; rw [aops_mono hle h1]; exact h
  | rangeFunc x params assign body => exact arange_mono hle h

theorem acallBody_mono {fn : FuncId} {args : List AVal} {st : St} {r : Res} (h : acallBody f pol P fn args st = some r) : acallBody g pol P fn args st = some r := by
  unfold acallBody at *
  cases h1 : P.funcs[fn]? with
  | none => rw [h1] at h; cases h
  | some fd =>
    rw [h1] at h
    simp only at h ⊢
    cases h2 : fd.body with
    | none => rw [h2] at h; cases h
    | some c =>
      rw [h2] at h
      simp only at h ⊢
      cases h3 : Nat.ble args.length fd.ntmps with
      | false => rw [h3] at h; cases h
      | true =>
        rw [h3] at h
        simp only [cond_true] at h ⊢
        cases h4 : f (.code c ⟨fn, st.next, fd.ntmps, none⟩ (argEnv 0 args) { st with next := st.next + fd.ntmps }) with
        | none => rw [h4] at h; cases h
        | some p => rw [h4] at h; rw [hle _ _ h4]; exact h

theorem step_mono {t : Task} {r : Res} (h : Ax.step pol P f t = some r) : Ax.step pol P g t = some r := by
  cases t with
  | code c cx env st => exact acode_mono hle h
  | call fn args st => exact acallBody_mono hle h
end

theorem exec_succ : ∀ n, RecLe (exec pol P n) (exec pol P (n + 1))
  | 0, t, r, h => by cases h
  | n + 1, t, r, h => step_mono (exec_succ n) h

theorem exec_le {n m : Nat} (h : n ≤ m) : RecLe (exec pol P n) (exec pol P m) := by
  induction m with
  | zero => obtain rfl : n = 0 := by omega
            exact fun _ _ h => h
  | succ m ih =>
    rcases Nat.lt_or_ge n (m + 1) with h1 | h1
    · exact fun t r hr => exec_succ m t r (ih (by omega) t r hr)
    · obtain rfl : n = m + 1 := by omega
      exact fun _ _ h => h
end Go.Ax
