/- Calls whose answers are known are not run again: an interpreter with a table. -/
import Derived.Test.YtllnomkinmhpfaaGreatPnWaB
namespace Go.Ax
set_option linter.unusedVariables false
set_option linter.unusedSimpArgs false
variable {P : Program} {pol : Pol}

/-- g does what f does; a call that takes and gives frozen values may differ in what it leaves behind. -/
structure RecT (pol : Pol) (f g : Task → Option Res) : Prop where
  code : ∀ {c : Code} {cx : Cx} {e : Env} {s : St} {r : Res}, f (.code c cx e s) = some r → g (.code c cx e s) = some r
  call : ∀ {fn : FuncId} {args : List AVal} {st : St} {v : AVal} {e : Env} {s : St}, f (.call fn args st) = some ⟨.val v, e, s⟩ → ∃ v' e' s', g (.call fn args st) = some ⟨.val v', e', s'⟩ ∧
    ((v' = v ∧ e' = e ∧ s' = s) ∨ (pol.shared fn = false ∧ allPure args = true ∧ st = St.init ∧ ∀ x ids, frz false s.heap v = some (x, ids) → ∃ ids', frz false s'.heap v' = some (x, ids')))

section
variable {f g : Task → Option Res} (hle : RecT pol f g)
include hle

theorem acallShared_tab {fn : FuncId} {args : List AVal} {st : St} {r : OpR} (hx : pol.shared fn = true ∨ allPure args = false) (h : acallShared f fn args st = some r) : acallShared g fn args st = some r := by
  unfold acallShared at *
  cases h1 : f (.call fn args st) with
  | none => rw [h1] at h; cases h
  | some p =>
    rw [h1] at h
    obtain ⟨o, e, s⟩ := p
    cases o with
    | val v =>
      obtain ⟨v', e', s', h2, h3⟩ := hle.call h1
      rcases h3 with ⟨rfl, rfl, rfl⟩ | ⟨h3, h4, _⟩
      · rw [h2]; exact h
      · rcases hx with hx | hx
        · rw [hx] at h3; cases h3
        · rw [hx] at h4; cases h4
    | _ => cases h

omit hle in
theorem frzL_pure_some {tn : Bool} {h : Heap} : ∀ {args : List AVal} {acc : List Id}, allPure args = true → ∃ r, frzL tn h args acc = some r
  | [], acc, _ => ⟨_, rfl⟩
  | v :: r, acc, hp => by
    simp only [allPure, Bool.and_eq_true] at hp
    obtain ⟨x, hx⟩ := frzL_pure_some (tn := tn) (h := h) (args := r) (acc := [] ++ acc) hp.2
    refine ⟨(v :: x.1, x.2), ?_⟩
    simp only [frzL, frz, hp.1, cond_true, hx]

theorem acallFn_tab {fn : FuncId} {args : List AVal} {st : St} {r : OpR} (h : acallFn f pol fn args st = some r) : acallFn g pol fn args st = some r := by
  unfold acallFn at *
  cases hs : pol.shared fn with
  | true => rw [hs] at h; exact acallShared_tab hle (.inl hs) h
  | false =>
    rw [hs] at h
    simp only [cond_false] at h ⊢
    cases hz : frzL true st.heap args [] with
    | none =>
      rw [hz] at h
      refine acallShared_tab hle (.inr ?_) h
      cases hp : allPure args with
      | false => rfl
      | true =>
        obtain ⟨x, hx⟩ := frzL_pure_some (tn := true) (h := st.heap) (acc := []) hp
        rw [hx] at hz; cases hz
    | some p =>
      obtain ⟨a, ids⟩ := p
      rw [hz] at h
      simp only at h ⊢
      cases h1 : f (.call fn a St.init) with
      | none => rw [h1] at h; cases h
      | some p =>
        rw [h1] at h
        obtain ⟨o, e, s⟩ := p
        cases o with
        | val v =>
          obtain ⟨v', e', s', h2, h3⟩ := hle.call h1
          rw [h2]
          simp only at h ⊢
          rcases h3 with ⟨rfl, rfl, rfl⟩ | ⟨_, _, _, h4⟩
          · exact h
          · cases hf : frz false s.heap v with
            | none => rw [hf] at h; cases h
            | some q =>
              obtain ⟨x, is⟩ := q
              obtain ⟨is', h5⟩ := h4 x is hf
              rw [hf] at h
              rw [h5]
              exact h
        | _ => cases h

theorem around_tab {b : Id} {inc : Nat} {args : List AVal} {st : St} {r : OpR} (h : around f b inc args st = some r) : around g b inc args st = some r := by
  unfold around at *
  split at h
  · rename_i inc' pd fn base nt env params assign body hl
    try rw [hl]
    simp only at h ⊢
    cases hc : (inc' == inc && args.length == params.length && params.all fun t => Nat.blt t nt) with
    | false => rw [hc] at h; cases h
    | true =>
      rw [hc] at h
      simp only [cond_true] at h ⊢
      cases h1 : f (.code assign ⟨fn, base, nt, some (b, inc)⟩ (setParams params args env) st) with
      | none => rw [h1] at h; cases h
      | some p =>
        rw [h1] at h
        rw [hle.code h1]
        obtain ⟨o, e1, s1⟩ := p
        cases o with
        | exit | goto | ret | val => cases h
        | norm =>
          simp only at h ⊢
          split at h
          · rename_i inc1 pd1 fn1 base1 nt1 envL params1 assign1 body1 hl1
            try rw [hl1]
            try simp only at h ⊢
            cases hc1 : (inc1 == inc) with
            | false => rw [hc1] at h; cases h
            | true =>
              rw [hc1] at h
              simp only [cond_true] at h ⊢
              cases h2 : f (.code body ⟨fn, base, nt, some (b, inc)⟩ e1 { s1 with heap := upI b (.loop inc1 .busy pd1 fn1 base1 nt1 envL params1 assign1 body1) s1.heap }) with
              | none => rw [h2] at h; cases h
              | some p => rw [h2] at h; rw [hle.code h2]; exact h
          · cases h
  · cases h

theorem acall_tab {env : Env} {st : St} {c : Call} {r : OpR} (h : acall f pol P env st c = some r) : acall g pol P env st c = some r := by
  unfold acall at *
  cases ht : atgt pol P env st c with
  | none => rw [ht] at h; cases h
  | some t =>
    rw [ht] at h
    cases t with
    | fn k args => exact acallFn_tab hle h
    | yld b inc args => exact around_tab hle h

theorem aoper_tab {cx : Cx} {env : Env} {st : St} {o : Oper} {r : OpR} (h : aoper f pol cx P env st o = some r) : aoper g pol cx P env st o = some r := by
  unfold aoper at *
  cases ho : o.op with
  | call c =>
    rw [ho] at h
    simp only at h ⊢
    cases hb : c.callee with
    | builtin b => rw [hb] at h; exact h
    | value x => rw [hb] at h; exact acall_tab hle h
    | invoke x n => rw [hb] at h; exact acall_tab hle h
  | _ => rw [ho] at h; exact h

theorem aops_tab {cx : Cx} {ops : Array Oper} : ∀ {l : List Oper} {env : Env} {st : St} {r : Env × St}, aops f pol cx P ops l env st = some r → aops g pol cx P ops l env st = some r
  | [], env, st, r, h => h
  | o :: l, env, st, r, h => by
    simp only [aops] at h ⊢
    cases hw : awanted ops env o with
    | none => rw [hw] at h; cases h
    | some t =>
      rw [hw] at h
      cases t with
      | false =>
        simp only at h ⊢
        cases hp : aput' cx.nt o.dst .undef env with
        | none => rw [hp] at h; cases h
        | some e => rw [hp] at h; exact aops_tab h
      | true =>
        simp only at h ⊢
        cases ho : aoper f pol cx P env st o with
        | none => rw [ho] at h; cases h
        | some q =>
          rw [ho] at h
          rw [aoper_tab hle ho]
          obtain ⟨v, s1, tch⟩ := q
          simp only at h ⊢
          cases hp : aput' cx.nt o.dst v env with
          | none => rw [hp] at h; cases h
          | some e => rw [hp] at h; exact aops_tab h

theorem adraw1_tab {cx : Cx} {ops : Array Oper} {env : Env} {st : St} {o : Oper} {r : OpR} (h : adraw1 f pol cx P ops env st o = some r) : adraw1 g pol cx P ops env st o = some r := by
  unfold adraw1 at *
  cases hw : awanted ops (pickE (o.looksAt ops) env) o with
  | none => rw [hw] at h; cases h
  | some t =>
    rw [hw] at h
    cases t with
    | false => exact h
    | true => exact aoper_tab hle h

omit hle in
theorem lackAll_tab {ops : Array Oper} {x : DItem} {p q : List DVar → Bool} (hpq : ∀ un, p un = true → q un = true) : ∀ {l un : List DVar}, lackAll ops x p l un = true → lackAll ops x q l un = true
  | [], un, h => hpq un h
  | y :: r, un, h => by
    simp only [lackAll, Bool.and_eq_true, Bool.or_eq_true] at h ⊢
    exact ⟨h.1.imp id (lackAll_tab hpq), h.2.imp id (lackAll_tab hpq)⟩

theorem loudAt_tab {cx : Cx} {ops : Array Oper} {x : DItem} {st : St} : ∀ {un : List DVar}, loudAt f pol cx P ops x st un = true → loudAt g pol cx P ops x st un = true
  | [], _ => rfl
  | y :: r, h => by
    simp only [loudAt] at h ⊢
    cases h1 : adraw1 f pol cx P ops x.env (lackOf cx (y :: r) st) x.o with
    | none => rw [h1] at h; cases h
    | some p => rw [h1] at h; rw [adraw1_tab hle h1]; exact h

theorem loudOk_tab {cx : Cx} {ops : Array Oper} {c0 : Nat} {vars : List DVar} {x : DItem} {st : St} (h : loudOk f pol cx P ops c0 vars x st = true) : loudOk g pol cx P ops c0 vars x st = true := by
  simp only [loudOk, Bool.and_eq_true] at h ⊢
  exact ⟨h.1, lackAll_tab (fun un => loudAt_tab hle) h.2⟩

theorem adrawSeq_tab {cx : Cx} {ops : Array Oper} {c0 : Nat} {vars : List DVar} : ∀ {l : List Oper} {i : Nat} {last : Option Nat} {env : Env} {st : St} {r : List DItem × Env × St}, adrawSeq f pol cx P ops c0 vars i last l env st = some r → adrawSeq g pol cx P ops c0 vars i last l env st = some r
  | [], i, last, env, st, r, h => h
  | o :: l, i, last, env, st, r, h => by
    rw [adrawSeq_cons] at h ⊢
    cases hq : adrawV f pol cx P ops c0 i env st o with
    | none => rw [hq] at h; cases h
    | some q =>
      have hq' : adrawV g pol cx P ops c0 i env st o = some q := by
        unfold adrawV at *
        cases hd : dvar P i o with
        | some x => rw [hd] at hq; exact hq
        | none => rw [hd] at hq; exact adraw1_tab hle hq
      rw [hq] at h
      rw [hq']
      obtain ⟨v, s1, loud⟩ := q
      simp only at h ⊢
      cases h1 : (o.after.all fun e => !Region.binds .any e || Nat.blt e.on i) with
      | false => rw [h1] at h; cases h
      | true =>
        rw [h1] at h
        simp only [cond_true] at h ⊢
        cases h2 : (!loud || (loudOk f pol cx P ops c0 vars ⟨i, o, env, v, loud, s1⟩ st && lastOk ops o last)) with
        | false => rw [h2] at h; cases h
        | true =>
          have h2' : (!loud || (loudOk g pol cx P ops c0 vars ⟨i, o, env, v, loud, s1⟩ st && lastOk ops o last)) = true := by
            simp only [Bool.or_eq_true, Bool.and_eq_true] at h2 ⊢
            exact h2.imp id fun h2 => ⟨loudOk_tab hle h2.1, h2.2⟩
          rw [h2] at h
          rw [h2']
          simp only [cond_true] at h ⊢
          cases hp : aput' cx.nt o.dst v env with
          | none => rw [hp] at h; cases h
          | some e =>
            rw [hp] at h
            simp only at h ⊢
            cases hr : adrawSeq f pol cx P ops c0 vars (i + 1) (cond loud (some i) last) l e (cond loud s1 st) with
            | none => rw [hr] at h; cases h
            | some p => rw [hr] at h; rw [adrawSeq_tab hr]; exact h

theorem sameAt_tab {cx : Cx} {ops : Array Oper} {x : DItem} {st : St} (h : sameAt f pol cx P ops x st = true) : sameAt g pol cx P ops x st = true := by
  unfold sameAt at *
  cases h1 : adraw1 f pol cx P ops x.env st x.o with
  | none => rw [h1] at h; cases h
  | some p => rw [h1] at h; rw [adraw1_tab hle h1]; exact h

theorem quietOk_tab {cx : Cx} {ops : Array Oper} {items : List DItem} {vars : List DVar} {st : St} {x : DItem} (h : quietOk f pol cx P ops items vars st x = true) : quietOk g pol cx P ops items vars st x = true := by
  unfold quietOk at *
  simp only [Bool.or_eq_true, Bool.and_eq_true, List.all_eq_true] at h ⊢
  exact h.imp id fun h => ⟨h.1.imp id (lackAll_tab fun un => sameAt_tab hle), fun y hy => (h.2 y hy).imp id fun h => h.imp id (lackAll_tab fun un => sameAt_tab hle)⟩

theorem adraw_tab {cx : Cx} {ops : Array Oper} {env : Env} {st : St} {r : Env × St} (h : adraw f pol cx P ops env st = some r) : adraw g pol cx P ops env st = some r := by
  unfold adraw at *
  simp only at h ⊢
  cases hs : adrawSeq f pol cx P ops st.clock (dvars P 0 ops.toList) 0 none ops.toList env { st with clock := st.clock + ops.size, heap := layVars cx st.clock (dvars P 0 ops.toList) st.heap } with
  | none => rw [hs] at h; cases h
  | some p =>
    obtain ⟨items, e1, s1⟩ := p
    rw [hs] at h
    rw [adrawSeq_tab hle hs]
    simp only at h ⊢
    cases h1 : (items.all fun x => items.all fun y => apartOk ops x y) with
    | false => rw [h1] at h; cases h
    | true =>
      rw [h1] at h
      simp only [cond_true] at h ⊢
      cases h2 : (items.any (·.loud) || !(dvars P 0 ops.toList).isEmpty) with
      | false => rw [h2] at h; exact h
      | true =>
        rw [h2] at h
        simp only [cond_true] at h ⊢
        cases h3 : (items.all fun x => quietOk f pol cx P ops items (dvars P 0 ops.toList) { st with clock := st.clock + ops.size, heap := layVars cx st.clock (dvars P 0 ops.toList) st.heap } x) with
        | false => rw [h3] at h; cases h
        | true =>
          have : (items.all fun x => quietOk g pol cx P ops items (dvars P 0 ops.toList) { st with clock := st.clock + ops.size, heap := layVars cx st.clock (dvars P 0 ops.toList) st.heap } x) = true :=
            List.all_eq_true.2 fun x hx => quietOk_tab hle (List.all_eq_true.1 h3 x hx)
          rw [this]
          rw [h3] at h
          exact h

omit hle in
theorem allPure_yld {xs ys : List AVal} {b : Id} {inc : Nat} : allPure (xs ++ [.yld b inc] ++ ys) = false := by
  cases h : allPure (xs ++ [.yld b inc] ++ ys) with
  | false => rfl
  | true =>
    have := allPure_iff.1 h (.yld b inc) (by simp)
    cases this

theorem arange_tab {cx : Cx} {env : Env} {st : St} {x : Operand} {params : Array Tmp} {assign body : Code} {r : Res} (h : arange f pol cx env st x params assign body = some r) : arange g pol cx env st x params assign body = some r := by
  unfold arange at *
  split at h
  · rename_i gf first captured p0 ps hgv hps
    try rw [hgv, hps]
    simp only at h ⊢
    cases hro : roundOk cx st with
    | false => rw [hro] at h; cases h
    | true =>
      rw [hro] at h
      simp only [cond_true] at h ⊢
      cases h1 : f (Task.call gf (first ++ [.yld (.v (cx.base + p0)) st.clock] ++ captured) { st with clock := st.clock + 1, heap := upI (.v (cx.base + p0)) (.loop st.clock .ready none cx.fn cx.base cx.nt env params.toList assign body) st.heap }) with
      | none => rw [h1] at h; cases h
      | some p =>
        obtain ⟨o, e, s⟩ := p
        cases o with
        | val v =>
          obtain ⟨v', e', s', h2, h3⟩ := hle.call h1
          rcases h3 with ⟨rfl, rfl, rfl⟩ | ⟨_, h4, _⟩
          · skip
            rw [h1] at h; rw [h2]; exact h
          · rw [allPure_yld] at h4; cases h4
        | _ => rw [h1] at h; cases h
  · cases h

theorem acode_tab {c : Code} {cx : Cx} {env : Env} {st : St} {r : Res} (h : acode f pol P c cx env st = some r) : acode g pol P c cx env st = some r := by
  unfold acode at *
  cases c with
  | skip | label | exit | goto | ret => exact h
  | refuse => cases h
  | seq a b =>
    simp only at h ⊢
    cases h1 : f (.code a cx env st) with
    | none => rw [h1] at h; cases h
    | some p =>
      rw [h1] at h
      rw [hle.code h1]
      obtain ⟨o, e, s⟩ := p
      cases o with
      | norm => exact hle.code h
      | _ => exact h
  | cond x a b =>
    simp only at h ⊢
    cases h1 : aev pol env x with
    | none => rw [h1] at h; cases h
    | some v =>
      rw [h1] at h
      cases v with
      | bool t => exact hle.code h
      | _ => cases h
  | block id a =>
    simp only at h ⊢
    cases h1 : f (.code a cx env st) with
    | none => rw [h1] at h; cases h
    | some p => rw [h1] at h; rw [hle.code h1]; exact h
  | loop a =>
    simp only at h ⊢
    cases h1 : f (.code a cx env st) with
    | none => rw [h1] at h; cases h
    | some p =>
      rw [h1] at h
      rw [hle.code h1]
      obtain ⟨o, e, s⟩ := p
      cases o with
      | norm => exact hle.code h
      | _ => exact h
  | scope a =>
    simp only at h ⊢
    cases h1 : f (.code a cx env st) with
    | none => rw [h1] at h; cases h
    | some p => rw [h1] at h; rw [hle.code h1]; exact h
  | region id ops draw =>
    simp only at h ⊢
    cases draw with
    | true =>
      simp only [cond_true] at h ⊢
      cases h1 : adraw f pol cx P ops env st with
      | none => rw [h1] at h; cases h
      | some p => rw [h1] at h; rw [adraw_tab hle h1]; exact h
    | false =>
      simp only [cond_false] at h ⊢
      cases h1 : aops f pol cx P ops ops.toList env st with
      | none => rw [h1] at h; cases h
      | some p => rw [h1] at h; rw [aops_tab hle h1]; exact h
  | rangeFunc x params assign body => exact arange_tab hle h

theorem acallBody_tab {fn : FuncId} {args : List AVal} {st : St} {r : Res} (h : acallBody f pol P fn args st = some r) : acallBody g pol P fn args st = some r := by
  unfold acallBody at *
  cases h1 : P.funcs[fn]? with
  | none => rw [h1] at h; cases h
  | some fd =>
    rw [h1] at h
    simp only at h ⊢
    cases h2 : fd.body with
    | none => rw [h2] at h; cases h
    | some c =>
      rw [h2] at h
      simp only at h ⊢
      cases h3 : Nat.ble args.length fd.ntmps with
      | false => rw [h3] at h; cases h
      | true =>
        rw [h3] at h
        simp only [cond_true] at h ⊢
        cases h4 : f (.code c ⟨fn, st.next, fd.ntmps, none⟩ (argEnv 0 args) { st with next := st.next + fd.ntmps }) with
        | none => rw [h4] at h; cases h
        | some p => rw [h4] at h; rw [hle.code h4]; exact h

theorem step_tab {t : Task} {r : Res} (h : Ax.step pol P f t = some r) : Ax.step pol P g t = some r := by
  cases t with
  | code c cx env st => exact acode_tab hle h
  | call fn args st => exact acallBody_tab hle h
end


abbrev Tab := List (FuncId × List AVal × AVal)

def tabAt : Tab → FuncId → List AVal → Option AVal
  | [], _, _ => none
  | (f, a, r) :: t, fn, args => cond (f == fn && listEqBy (aveq 1000) a args) (some r) (tabAt t fn args)

def stInit (s : St) : Bool := s.clock == 0 && s.next == 0 && s.rnext == 0 && s.heap.isEmpty

def recT (pol : Pol) (tab : Tab) (rec : Task → Option Res) : Task → Option Res
  | .call fn args st => cond (stInit st && !pol.shared fn) (match tabAt tab fn args with
    | some r => some ⟨.val r, [], St.init⟩
    | none => rec (.call fn args st)) (rec (.call fn args st))
  | .code c cx e s => rec (.code c cx e s)

def execT (pol : Pol) (P : Program) (tab : Tab) : Nat → Task → Option Res
  | 0, _ => none
  | n + 1, t => Ax.step pol P (recT pol tab (execT pol P tab n)) t

/-- Every entry of the table is so. -/
def TabOk (pol : Pol) (P : Program) (tab : Tab) : Prop := ∀ f a r, (f, a, r) ∈ tab → allPure a = true ∧ r.pure = true ∧ ExCall pol P f a r

theorem TabOk.nil : TabOk pol P [] := fun f a r h => by cases h
theorem TabOk.cons {f : FuncId} {a : List AVal} {r : AVal} {tab : Tab} (h1 : allPure a = true) (h2 : r.pure = true) (h3 : ExCall pol P f a r) (ht : TabOk pol P tab) : TabOk pol P ((f, a, r) :: tab) := fun f' a' r' h => by
  rcases List.mem_cons.1 h with h | h
  · cases h; exact ⟨h1, h2, h3⟩
  · exact ht _ _ _ h

theorem tabAt_mem : ∀ {tab : Tab} {fn : FuncId} {args : List AVal} {r : AVal}, tabAt tab fn args = some r → (fn, args, r) ∈ tab
  | [], _, _, _, h => by cases h
  | (f, a, r0) :: t, fn, args, r, h => by
    simp only [tabAt] at h
    cases hc : (f == fn && listEqBy (aveq 1000) a args) with
    | true =>
      rw [hc, cond_true] at h
      cases h
      simp only [Bool.and_eq_true, beq_iff_eq] at hc
      obtain ⟨rfl, h2⟩ := hc
      rw [listEqBy_true (fun a b => aveq_true _) h2]
      simp
    | false =>
      rw [hc, cond_false] at h
      exact List.mem_cons_of_mem _ (tabAt_mem h)

theorem tab_fuel : ∀ {tab : Tab}, TabOk pol P tab → ∃ M, ∀ f a r, (f, a, r) ∈ tab → ∃ v e s ids, exec pol P M (.call f a St.init) = some ⟨.val v, e, s⟩ ∧ frz false s.heap v = some (r, ids)
  | [], _ => ⟨0, fun f a r h => by cases h⟩
  | (f, a, r) :: t, h => by
    obtain ⟨_, _, n, v, e, s, ids, h1, h2⟩ := h f a r (by simp)
    obtain ⟨M, hM⟩ := tab_fuel (tab := t) (fun f a r hm => h f a r (by simp [hm]))
    refine ⟨max n M, fun f' a' r' hm => ?_⟩
    rcases List.mem_cons.1 hm with hm | hm
    · cases hm; exact ⟨v, e, s, ids, exec_at (Nat.le_max_left _ _) h1, h2⟩
    · obtain ⟨v', e', s', ids', h3, h4⟩ := hM _ _ _ hm
      exact ⟨v', e', s', ids', exec_at (Nat.le_max_right _ _) h3, h4⟩

theorem stInit_true {s : St} (h : stInit s = true) : s = St.init := by
  obtain ⟨a, b, c, d⟩ := s
  simp only [stInit, Bool.and_eq_true, beq_iff_eq, List.isEmpty_iff] at h
  obtain ⟨⟨⟨rfl, rfl⟩, rfl⟩, rfl⟩ := h
  rfl

theorem execT_le {tab : Tab} (ht : TabOk pol P tab) {M : Nat} (hM : ∀ f a r, (f, a, r) ∈ tab → ∃ v e s ids, exec pol P M (.call f a St.init) = some ⟨.val v, e, s⟩ ∧ frz false s.heap v = some (r, ids)) : ∀ n, RecLe (execT pol P tab n) (exec pol P (n + M))
  | 0, t, r, h => by cases h
  | n + 1, t, r, h => by
    have ih := execT_le ht hM n
    have hT : RecT pol (recT pol tab (execT pol P tab n)) (exec pol P (n + M)) := {
      code := fun h => ih _ _ h
      call := fun {fn args st v e s} h => by
        simp only [recT] at h
        cases hc : (stInit st && !pol.shared fn) with
        | false => rw [hc, cond_false] at h; exact ⟨v, e, s, ih _ _ h, .inl ⟨rfl, rfl, rfl⟩⟩
        | true =>
          rw [hc, cond_true] at h
          simp only [Bool.and_eq_true, Bool.not_eq_true'] at hc
          cases hl : tabAt tab fn args with
          | none => rw [hl] at h; exact ⟨v, e, s, ih _ _ h, .inl ⟨rfl, rfl, rfl⟩⟩
          | some r0 =>
            rw [hl] at h
            cases h
            have hm := tabAt_mem hl
            obtain ⟨p1, p2, _⟩ := ht _ _ _ hm
            obtain ⟨v', e', s', ids, h1, h2⟩ := hM _ _ _ hm
            obtain rfl := stInit_true hc.1
            refine ⟨v', e', s', exec_at (Nat.le_add_left _ _) h1, .inr ⟨hc.2, p1, rfl, fun x is hx => ?_⟩⟩
            have : x = v := by
              unfold frz at hx
              rw [p2] at hx
              cases hx
              rfl
            subst this
            exact ⟨ids, h2⟩ }
    have := step_tab hT h
    show exec pol P (n + 1 + M) t = some r
    rw [Nat.add_right_comm]
    exact this

/-- The check that the kernel makes. -/
def tabRun (pol : Pol) (P : Program) (tab : Tab) (n : Nat) (f : FuncId) (args : List AVal) (r : AVal) : Bool :=
  match execT pol P tab n (.call f args St.init) with
  | some ⟨.val v, _, s⟩ => match frz false s.heap v with
    | some (x, _) => aveq 1000 x r
    | none => false
  | _ => false

theorem ExCall.of_tab {tab : Tab} (ht : TabOk pol P tab) {n : Nat} {f : FuncId} {args : List AVal} {r : AVal} (h : tabRun pol P tab n f args r = true) : ExCall pol P f args r := by
  unfold tabRun at h
  split at h
  · rename_i v e s hx
    split at h
    · rename_i x ids hz
      obtain ⟨M, hM⟩ := tab_fuel ht
      exact ⟨n + M, v, e, s, ids, execT_le ht hM n _ _ hx, by rw [hz, aveq_true _ h]⟩
    · cases h
  · cases h
end Go.Ax
