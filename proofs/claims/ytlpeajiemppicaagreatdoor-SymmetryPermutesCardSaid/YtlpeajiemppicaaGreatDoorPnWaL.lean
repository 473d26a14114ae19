/- Calls whose answers are known are not run again: an interpreter with a table. -/
import Derived.Test.YtlpeajiemppicaaGreatDoorPnWaE
import Derived.Test.YtlpeajiemppicaaGreatDoorPnWaG
namespace Go.Ax
set_option linter.unusedVariables false
set_option linter.unusedSimpArgs false
variable {P : Program} {pol : Pol}

/-- g does what f does; a call that takes and gives frozen values may differ in what it leaves behind. -/
structure RecT (pol : Pol) (f g : Task → Option Res) : Prop where
  code : ∀ {c : Code} {cx : Cx} {e : Env} {s : St} {r : Res}, f (.code c cx e s) = some r → g (.code c cx e s) = some r
  call : ∀ {fn : FuncId} {args : List AVal} {st : St} {v : AVal} {e : Env} {s : St}, f (.call fn args st) = some ⟨.val v, e, s⟩ → ∃ v' e' s', g (.call fn args st) = some ⟨.val v', e', s'⟩ ∧
    ((v' = v ∧ e' = e ∧ s' = s) ∨ (pol.shared fn = false ∧ allPure args = true ∧ st = St.init ∧ ∀ x ids, frz false s.heap v = some (x, ids) → ∃ ids', frz false s'.heap v' = some (x, ids')))

section
variable {f g : Task → Option Res} (hle : RecT pol f g)
include hle

theorem acallShared_tab {fn : FuncId} {args : List AVal} {st : St} {r : OpR} (hx : pol.shared fn = true ∨ allPure args = false) (h : acallShared f fn args st = some r) : acallShared g fn args st = some r := by
  unfold acallShared at *
  cases h1 : f (.call fn args st) with
  | none => rw [h1] at h; cases h
  | some p =>
    rw [h1] at h
    obtain ⟨o, e, s⟩ := p
    cases o with
    | val v =>
      obtain ⟨v', e', s', h2, h3⟩ := hle.call h1
      rcases h3 with ⟨rfl, rfl, rfl⟩ | ⟨h3, h4, _⟩
      · rw [h2]; exact h
      · rcases hx with hx | hx
        · rw [hx] at h3; cases h3
        · rw [hx] at h4; cases h4
    | _ => cases h

omit hle in
theorem frzL_pure_some {tn : Bool} {h : Heap} : ∀ {args : List AVal} {acc : List Id}, allPure args = true → ∃ r, frzL tn h args acc = some r
  | [], acc, _ => ⟨_, rfl⟩
  | v :: r, acc, hp => by
    simp only [allPure, Bool.and_eq_true] at hp
    obtain ⟨x, hx⟩ := frzL_pure_some (tn := tn) (h := h) (args := r) (acc := [] ++ acc) hp.2
    refine ⟨(v :: x.1, x.2), ?_⟩
    simp only [frzL, frz, hp.1, cond_true, hx]

theorem acallFn_tab {fn : FuncId} {args : List AVal} {st : St} {r : OpR} (h : acallFn f pol fn args st = some r) : acallFn g pol fn args st = some r := by
  unfold acallFn at *
  cases hso : pol.sorts fn with
  | true => rw [hso] at h; exact h
  | false =>
  rw [hso] at h
  simp only [cond_false] at h ⊢
  cases hs : pol.shared fn with
  | true => rw [hs] at h; exact acallShared_tab hle (.inl hs) h
  | false =>
    rw [hs] at h
    simp only [cond_false] at h ⊢
    cases hz : frzL true st.heap args [] with
    | none =>
      rw [hz] at h
      refine acallShared_tab hle (.inr ?_) h
      cases hp : allPure args with
      | false => rfl
      | true =>
        obtain ⟨x, hx⟩ := frzL_pure_some (tn := true) (h := st.heap) (acc := []) hp
        rw [hx] at hz; cases hz
    | some p =>
      obtain ⟨a, ids⟩ := p
      rw [hz] at h
      simp only at h ⊢
      cases h1 : f (.call fn a St.init) with
      | none => rw [h1] at h; cases h
      | some p =>
        rw [h1] at h
        obtain ⟨o, e, s⟩ := p
        cases o with
        | val v =>
          obtain ⟨v', e', s', h2, h3⟩ := hle.call h1
          rw [h2]
          simp only at h ⊢
          rcases h3 with ⟨rfl, rfl, rfl⟩ | ⟨_, _, _, h4⟩
          · exact h
          · cases hf : frz false s.heap v with
            | none => rw [hf] at h; cases h
            | some q =>
              obtain ⟨x, is⟩ := q
              obtain ⟨is', h5⟩ := h4 x is hf
              rw [hf] at h
              rw [h5]
              exact h
        | _ => cases h

theorem around_tab {b : Id} {inc : Nat} {args : List AVal} {st : St} {r : OpR} (h : around f b inc args st = some r) : around g b inc args st = some r := by
  unfold around at *
  split at h
  · rename_i inc' pd fn base nt env params assign body hl
    try rw [hl]
    simp only at h ⊢
    cases hc : (inc' == inc && args.length == params.length && params.all fun t => Nat.blt t nt) with
    | false => rw [hc] at h; cases h
    | true =>
      rw [hc] at h
      simp only [cond_true] at h ⊢
      cases h1 : f (.code assign ⟨fn, base, nt, some (b, inc)⟩ (setParams params args env) st) with
      | none => rw [h1] at h; cases h
      | some p =>
        rw [h1] at h
        rw [hle.code h1]
        obtain ⟨o, e1, s1⟩ := p
        cases o with
        | exit | goto | ret | val => cases h
        | norm =>
          simp only at h ⊢
          split at h
          · rename_i inc1 pd1 fn1 base1 nt1 envL params1 assign1 body1 hl1
            try rw [hl1]
            try simp only at h ⊢
            cases hc1 : (inc1 == inc) with
            | false => rw [hc1] at h; cases h
            | true =>
              rw [hc1] at h
              simp only [cond_true] at h ⊢
              cases h2 : f (.code body ⟨fn, base, nt, some (b, inc)⟩ e1 { s1 with heap := upI b (.loop inc1 .busy pd1 fn1 base1 nt1 envL params1 assign1 body1) s1.heap }) with
              | none => rw [h2] at h; cases h
              | some p => rw [h2] at h; rw [hle.code h2]; exact h
          · cases h
  · cases h

theorem acall_tab {env : Env} {st : St} {c : Call} {r : OpR} (h : acall f pol P env st c = some r) : acall g pol P env st c = some r := by
  unfold acall at *
  cases ht : atgt pol P env st c with
  | none => rw [ht] at h; cases h
  | some t =>
    rw [ht] at h
    cases t with
    | fn k args => exact acallFn_tab hle h
    | yld b inc args => exact around_tab hle h

theorem aoper_tab {cx : Cx} {env : Env} {st : St} {o : Oper} {r : OpR} (h : aoper f pol cx P env st o = some r) : aoper g pol cx P env st o = some r := by
  unfold aoper at *
  cases ho : o.op with
  | call c =>
    rw [ho] at h
    simp only at h ⊢
    cases hb : c.callee with
    | builtin b => rw [hb] at h; exact h
    | value x => rw [hb] at h; exact acall_tab hle h
    | invoke x n => rw [hb] at h; exact acall_tab hle h
  | _ => rw [ho] at h; exact h

theorem aops_tab {cx : Cx} {ops : Array Oper} : ∀ {l : List Oper} {env : Env} {st : St} {r : Env × St}, aops f pol cx P ops l env st = some r → aops g pol cx P ops l env st = some r
  | [], env, st, r, h => h
  | o :: l, env, st, r, h => by
    simp only [aops] at h ⊢
    cases hw : awanted ops env o with
    | none => rw [hw] at h; cases h
    | some t =>
      rw [hw] at h
      cases t with
      | false =>
        simp only at h ⊢
        cases hp : aput' cx.nt o.dst .undef env with
        | none => rw [hp] at h; cases h
        | some e => rw [hp] at h; exact aops_tab h
      | true =>
        simp only at h ⊢
        cases ho : aoper f pol cx P env st o with
        | none => rw [ho] at h; cases h
        | some q =>
          rw [ho] at h
          rw [aoper_tab hle ho]
          obtain ⟨v, s1, tch⟩ := q
          simp only at h ⊢
          cases hp : aput' cx.nt o.dst v env with
          | none => rw [hp] at h; cases h
          | some e => rw [hp] at h; exact aops_tab h

theorem adraw1_tab {cx : Cx} {ops : Array Oper} {env : Env} {st : St} {o : Oper} {r : OpR} (h : adraw1 f pol cx P ops env st o = some r) : adraw1 g pol cx P ops env st o = some r := by
  unfold adraw1 at *
  cases hw : awanted ops (pickE (o.looksAt ops) env) o with
  | none => rw [hw] at h; cases h
  | some t =>
    rw [hw] at h
    cases t with
    | false => exact h
    | true => exact aoper_tab hle h

omit hle in
theorem lackAll_tab {ops : Array Oper} {x : DItem} {p q : List DVar → Bool} (hpq : ∀ un, p un = true → q un = true) : ∀ {l un : List DVar}, lackAll ops x p l un = true → lackAll ops x q l un = true
  | [], un, h => hpq un h
  | y :: r, un, h => by
    simp only [lackAll, Bool.and_eq_true, Bool.or_eq_true] at h ⊢
    exact ⟨h.1.imp id (lackAll_tab hpq), h.2.imp id (lackAll_tab hpq)⟩

theorem loudAt_tab {cx : Cx} {ops : Array Oper} {x : DItem} {st : St} : ∀ {un : List DVar}, loudAt f pol cx P ops x st un = true → loudAt g pol cx P ops x st un = true
  | [], _ => rfl
  | y :: r, h => by
    simp only [loudAt] at h ⊢
    cases h1 : adraw1 f pol cx P ops x.env (lackOf cx (y :: r) st) x.o with
    | none => rw [h1] at h; cases h
    | some p => rw [h1] at h; rw [adraw1_tab hle h1]; exact h

theorem loudOk_tab {cx : Cx} {ops : Array Oper} {c0 : Nat} {vars : List DVar} {x : DItem} {st : St} (h : loudOk f pol cx P ops c0 vars x st = true) : loudOk g pol cx P ops c0 vars x st = true := by
  simp only [loudOk, Bool.and_eq_true] at h ⊢
  exact ⟨h.1, lackAll_tab (fun un => loudAt_tab hle) h.2⟩

theorem adrawSeq_tab {cx : Cx} {ops : Array Oper} {c0 : Nat} {vars : List DVar} : ∀ {l : List Oper} {i : Nat} {last : Option Nat} {env : Env} {st : St} {r : List DItem × Env × St}, adrawSeq f pol cx P ops c0 vars i last l env st = some r → adrawSeq g pol cx P ops c0 vars i last l env st = some r
  | [], i, last, env, st, r, h => h
  | o :: l, i, last, env, st, r, h => by
    rw [adrawSeq_cons] at h ⊢
    cases hq : adrawV f pol cx P ops c0 i env st o with
    | none => rw [hq] at h; cases h
    | some q =>
      have hq' : adrawV g pol cx P ops c0 i env st o = some q := by
        unfold adrawV at *
        cases hd : dvar P i o with
        | some x => rw [hd] at hq; exact hq
        | none => rw [hd] at hq; exact adraw1_tab hle hq
      rw [hq] at h
      rw [hq']
      obtain ⟨v, s1, loud⟩ := q
      simp only at h ⊢
      cases h1 : (o.after.all fun e => !Region.binds .any e || Nat.blt e.on i) with
      | false => rw [h1] at h; cases h
      | true =>
        rw [h1] at h
        simp only [cond_true] at h ⊢
        cases h2 : (!loud || (loudOk f pol cx P ops c0 vars ⟨i, o, env, v, loud, s1⟩ st && lastOk ops o last)) with
        | false => rw [h2] at h; cases h
        | true =>
          have h2' : (!loud || (loudOk g pol cx P ops c0 vars ⟨i, o, env, v, loud, s1⟩ st && lastOk ops o last)) = true := by
            simp only [Bool.or_eq_true, Bool.and_eq_true] at h2 ⊢
            exact h2.imp id fun h2 => ⟨loudOk_tab hle h2.1, h2.2⟩
          rw [h2] at h
          rw [h2']
          simp only [cond_true] at h ⊢
          cases hp : aput' cx.nt o.dst v env with
          | none => rw [hp] at h; cases h
          | some e =>
            rw [hp] at h
            simp only at h ⊢
            cases hr : adrawSeq f pol cx P ops c0 vars (i + 1) (cond loud (some i) last) l e (cond loud s1 st) with
            | none => rw [hr] at h; cases h
            | some p => rw [hr] at h; rw [adrawSeq_tab hr]; exact h

theorem sameAt_tab {cx : Cx} {ops : Array Oper} {x : DItem} {st : St} (h : sameAt f pol cx P ops x st = true) : sameAt g pol cx P ops x st = true := by
  unfold sameAt at *
  cases h1 : adraw1 f pol cx P ops x.env st x.o with
  | none => rw [h1] at h; cases h
  | some p => rw [h1] at h; rw [adraw1_tab hle h1]; exact h

theorem quietOk_tab {cx : Cx} {ops : Array Oper} {items : List DItem} {vars : List DVar} {st : St} {x : DItem} (h : quietOk f pol cx P ops items vars st x = true) : quietOk g pol cx P ops items vars st x = true := by
  unfold quietOk at *
  simp only [Bool.or_eq_true, Bool.and_eq_true, List.all_eq_true] at h ⊢
  exact h.imp id fun h => ⟨h.1.imp id (lackAll_tab fun un => sameAt_tab hle), fun y hy => (h.2 y hy).imp id fun h => h.imp id (lackAll_tab fun un => sameAt_tab hle)⟩

theorem adraw_tab {cx : Cx} {ops : Array Oper} {env : Env} {st : St} {r : Env × St} (h : adraw f pol cx P ops env st = some r) : adraw g pol cx P ops env st = some r := by
  unfold adraw at *
  simp only at h ⊢
  cases hs : adrawSeq f pol cx P ops st.clock (dvars P 0 ops.toList) 0 none ops.toList env { st with clock := st.clock + ops.size, heap := layVars cx st.clock (dvars P 0 ops.toList) st.heap } with
  | none => rw [hs] at h; cases h
  | some p =>
    obtain ⟨items, e1, s1⟩ := p
    rw [hs] at h
    rw [adrawSeq_tab hle hs]
    simp only at h ⊢
    cases h1 : (items.all fun x => items.all fun y => apartOk ops x y) with
    | false => rw [h1] at h; cases h
    | true =>
      rw [h1] at h
      simp only [cond_true] at h ⊢
      cases h2 : (items.any (·.loud) || !(dvars P 0 ops.toList).isEmpty) with
      | false => rw [h2] at h; exact h
      | true =>
        rw [h2] at h
        simp only [cond_true] at h ⊢
        cases h3 : (items.all fun x => quietOk f pol cx P ops items (dvars P 0 ops.toList) { st with clock := st.clock + ops.size, heap := layVars cx st.clock (dvars P 0 ops.toList) st.heap } x) with
        | false => rw [h3] at h; cases h
        | true =>
          have : (items.all fun x => quietOk g pol cx P ops items (dvars P 0 ops.toList) { st with clock := st.clock + ops.size, heap := layVars cx st.clock (dvars P 0 ops.toList) st.heap } x) = true :=
            List.all_eq_true.2 fun x hx => quietOk_tab hle (List.all_eq_true.1 h3 x hx)
          rw [this]
          rw [h3] at h
          exact h

omit hle in
theorem allPure_yld {xs ys : List AVal} {b : Id} {inc : Nat} : allPure (xs ++ [.yld b inc] ++ ys) = false := by
  cases h : allPure (xs ++ [.yld b inc] ++ ys) with
  | false => rfl
  | true =>
    have := allPure_iff.1 h (.yld b inc) (by simp)
    cases this

theorem arange_tab {cx : Cx} {env : Env} {st : St} {x : Operand} {params : Array Tmp} {assign body : Code} {r : Res} (h : arange f pol cx env st x params assign body = some r) : arange g pol cx env st x params assign body = some r := by
  unfold arange at *
  split at h
  · rename_i gf first captured p0 ps hgv hps
    try rw [hgv, hps]
    simp only at h ⊢
    cases hro : roundOk cx st with
    | false => rw [hro] at h; cases h
    | true =>
      rw [hro] at h
      simp only [cond_true] at h ⊢
      cases h1 : f (Task.call gf (first ++ [.yld (.v (cx.base + p0)) st.clock] ++ captured) { st with clock := st.clock + 1, heap := upI (.v (cx.base + p0)) (.loop st.clock .ready none cx.fn cx.base cx.nt env params.toList assign body) st.heap }) with
      | none => rw [h1] at h; cases h
      | some p =>
        obtain ⟨o, e, s⟩ := p
        cases o with
        | val v =>
          obtain ⟨v', e', s', h2, h3⟩ := hle.call h1
          rcases h3 with ⟨rfl, rfl, rfl⟩ | ⟨_, h4, _⟩
          · skip
            rw [h1] at h; rw [h2]; exact h
          · rw [allPure_yld] at h4; cases h4
        | _ => rw [h1] at h; cases h
  · cases h

theorem acode_tab {c : Code} {cx : Cx} {env : Env} {st : St} {r : Res} (h : acode f pol P c cx env st = some r) : acode g pol P c cx env st = some r := by
  unfold acode at *
  cases c with
  | skip | label | exit | goto | ret => exact h
  | refuse => cases h
  | seq a b =>
    simp only at h ⊢
    cases h1 : f (.code a cx env st) with
    | none => rw [h1] at h; cases h
    | some p =>
      rw [h1] at h
      rw [hle.code h1]
      obtain ⟨o, e, s⟩ := p
      cases o with
      | norm => exact hle.code h
      | _ => exact h
  | cond x a b =>
    simp only at h ⊢
    cases h1 : aev pol env x with
    | none => rw [h1] at h; cases h
    | some v =>
      rw [h1] at h
      cases v with
      | bool t => exact hle.code h
      | _ => cases h
  | block id a =>
    simp only at h ⊢
    cases h1 : f (.code a cx env st) with
    | none => rw [h1] at h; cases h
    | some p => rw [h1] at h; rw [hle.code h1]; exact h
  | loop a =>
    simp only at h ⊢
    cases h1 : f (.code a cx env st) with
    | none => rw [h1] at h; cases h
    | some p =>
      rw [h1] at h
      rw [hle.code h1]
      obtain ⟨o, e, s⟩ := p
      cases o with
      | norm => exact hle.code h
      | _ => exact h
  | scope a =>
    simp only at h ⊢
    cases h1 : f (.code a cx env st) with
    | none => rw [h1] at h; cases h
    | some p => rw [h1] at h; rw [hle.code h1]; exact h
  | region id ops draw =>
    simp only at h ⊢
    cases draw with
    | true =>
      simp only [cond_true] at h ⊢
      cases h1 : adraw f pol cx P ops env st with
      | none => rw [h1] at h; cases h
      | some p => rw [h1] at h; rw [adraw_tab hle h1]; exact h
    | false =>
      simp only [cond_false] at h ⊢
      cases h1 : aops f pol cx P ops ops.toList env st with
      | none => rw [h1] at h; cases h
      | some p => rw [h1] at h; rw [aops_tab hle h1]; exact h
  | rangeFunc x params assign body => exact arange_tab hle h

theorem acallBody_tab {fn : FuncId} {args : List AVal} {st : St} {r : Res} (h : acallBody f pol P fn args st = some r) : acallBody g pol P fn args st = some r := by
  unfold acallBody at *
  cases h1 : P.funcs[fn]? with
  | none => rw [h1] at h; cases h
  | some fd =>
    rw [h1] at h
    simp only at h ⊢
    cases h2 : fd.body with
    | none => rw [h2] at h; cases h
    | some c =>
      rw [h2] at h
      simp only at h ⊢
      cases h3 : Nat.ble args.length fd.ntmps with
      | false => rw [h3] at h; cases h
      | true =>
        rw [h3] at h
        simp only [cond_true] at h ⊢
        cases h4 : f (.code c ⟨fn, st.next, fd.ntmps, none⟩ (argEnv 0 args) { st with next := st.next + fd.ntmps }) with
        | none => rw [h4] at h; cases h
        | some p => rw [h4] at h; rw [hle.code h4]; exact h

theorem step_tab {t : Task} {r : Res} (h : Ax.step pol P f t = some r) : Ax.step pol P g t = some r := by
  cases t with
  | code c cx env st => exact acode_tab hle h
  | call fn args st => exact acallBody_tab hle h
end


abbrev Tab := List (FuncId × List AVal × AVal)

def tabAt : Tab → FuncId → List AVal → Option AVal
  | [], _, _ => none
  | (f, a, r) :: t, fn, args => cond (f == fn && listEqBy (aveq 1000) a args) (some r) (tabAt t fn args)

def stInit (s : St) : Bool := s.clock == 0 && s.next == 0 && s.rnext == 0 && s.heap.isEmpty

def recT (pol : Pol) (tab : Tab) (rec : Task → Option Res) : Task → Option Res
  | .call fn args st => cond (stInit st && !pol.shared fn) (match tabAt tab fn args with
    | some r => some ⟨.val r, [], St.init⟩
    | none => rec (.call fn args st)) (rec (.call fn args st))
  | .code c cx e s => rec (.code c cx e s)

def execT (pol : Pol) (P : Program) (tab : Tab) : Nat → Task → Option Res
  | 0, _ => none
  | n + 1, t => Ax.step pol P (recT pol tab (execT pol P tab n)) t

/-- Every entry of the table is so. -/
def TabOk (pol : Pol) (P : Program) (tab : Tab) : Prop := ∀ f a r, (f, a, r) ∈ tab → allPure a = true ∧ r.pure = true ∧ ExCall pol P f a r

theorem TabOk.nil : TabOk pol P [] := fun f a r h => by cases h
theorem TabOk.cons {f : FuncId} {a : List AVal} {r : AVal} {tab : Tab} (h1 : allPure a = true) (h2 : r.pure = true) (h3 : ExCall pol P f a r) (ht : TabOk pol P tab) : TabOk pol P ((f, a, r) :: tab) := fun f' a' r' h => by
  rcases List.mem_cons.1 h with h | h
  · cases h; exact ⟨h1, h2, h3⟩
  · exact ht _ _ _ h

theorem tabAt_mem : ∀ {tab : Tab} {fn : FuncId} {args : List AVal} {r : AVal}, tabAt tab fn args = some r → (fn, args, r) ∈ tab
  | [], _, _, _, h => by cases h
  | (f, a, r0) :: t, fn, args, r, h => by
    simp only [tabAt] at h
    cases hc : (f == fn && listEqBy (aveq 1000) a args) with
    | true =>
      rw [hc, cond_true] at h
      cases h
      simp only [Bool.and_eq_true, beq_iff_eq] at hc
      obtain ⟨rfl, h2⟩ := hc
      rw [listEqBy_true (fun a b => aveq_true _) h2]
      simp
    | false =>
      rw [hc, cond_false] at h
      exact List.mem_cons_of_mem _ (tabAt_mem h)

theorem tab_fuel : ∀ {tab : Tab}, TabOk pol P tab → ∃ M, ∀ f a r, (f, a, r) ∈ tab → ∃ v e s ids, exec pol P M (.call f a St.init) = some ⟨.val v, e, s⟩ ∧ frz false s.heap v = some (r, ids)
  | [], _ => ⟨0, fun f a r h => by cases h⟩
  | (f, a, r) :: t, h => by
    obtain ⟨_, _, n, v, e, s, ids, h1, h2⟩ := h f a r (by simp)
    obtain ⟨M, hM⟩ := tab_fuel (tab := t) (fun f a r hm => h f a r (by simp [hm]))
    refine ⟨max n M, fun f' a' r' hm => ?_⟩
    rcases List.mem_cons.1 hm with hm | hm
    · cases hm; exact ⟨v, e, s, ids, exec_at (Nat.le_max_left _ _) h1, h2⟩
    · obtain ⟨v', e', s', ids', h3, h4⟩ := hM _ _ _ hm
      exact ⟨v', e', s', ids', exec_at (Nat.le_max_right _ _) h3, h4⟩

theorem stInit_true {s : St} (h : stInit s = true) : s = St.init := by
  obtain ⟨a, b, c, d⟩ := s
  simp only [stInit, Bool.and_eq_true, beq_iff_eq, List.isEmpty_iff] at h
  obtain ⟨⟨⟨rfl, rfl⟩, rfl⟩, rfl⟩ := h
  rfl

theorem execT_le {tab : Tab} (ht : TabOk pol P tab) {M : Nat} (hM : ∀ f a r, (f, a, r) ∈ tab → ∃ v e s ids, exec pol P M (.call f a St.init) = some ⟨.val v, e, s⟩ ∧ frz false s.heap v = some (r, ids)) : ∀ n, RecLe (execT pol P tab n) (exec pol P (n + M))
  | 0, t, r, h => by cases h
  | n + 1, t, r, h => by
    have ih := execT_le ht hM n
    have hT : RecT pol (recT pol tab (execT pol P tab n)) (exec pol P (n + M)) := {
      code := fun h => ih _ _ h
      call := fun {fn args st v e s} h => by
        simp only [recT] at h
        cases hc : (stInit st && !pol.shared fn) with
        | false => rw [hc, cond_false] at h; exact ⟨v, e, s, ih _ _ h, .inl ⟨rfl, rfl, rfl⟩⟩
        | true =>
          rw [hc, cond_true] at h
          simp only [Bool.and_eq_true, Bool.not_eq_true'] at hc
          cases hl : tabAt tab fn args with
          | none => rw [hl] at h; exact ⟨v, e, s, ih _ _ h, .inl ⟨rfl, rfl, rfl⟩⟩
          | some r0 =>
            rw [hl] at h
            cases h
            have hm := tabAt_mem hl
            obtain ⟨p1, p2, _⟩ := ht _ _ _ hm
            obtain ⟨v', e', s', ids, h1, h2⟩ := hM _ _ _ hm
            obtain rfl := stInit_true hc.1
            refine ⟨v', e', s', exec_at (Nat.le_add_left _ _) h1, .inr ⟨hc.2, p1, rfl, fun x is hx => ?_⟩⟩
            have : x = v := by
              unfold frz at hx
              rw [p2] at hx
              cases hx
              rfl
            subst this
            exact ⟨ids, h2⟩ }
    have := step_tab hT h
    show exec pol P (n + 1 + M) t = some r
    rw [Nat.add_right_comm]
    exact this

/-- The check that the kernel makes. -/
def tabRun (pol : Pol) (P : Program) (tab : Tab) (n : Nat) (f : FuncId) (args : List AVal) (r : AVal) : Bool :=
  match execT pol P tab n (.call f args St.init) with
  | some ⟨.val v, _, s⟩ => match frz false s.heap v with
    | some (x, _) => aveq 1000 x r
    | none => false
  | _ => false

theorem ExCall.of_tab {tab : Tab} (ht : TabOk pol P tab) {n : Nat} {f : FuncId} {args : List AVal} {r : AVal} (h : tabRun pol P tab n f args r = true) : ExCall pol P f args r := by
  unfold tabRun at h
  split at h
  · rename_i v e s hx
    split at h
    · rename_i x ids hz
      obtain ⟨M, hM⟩ := tab_fuel ht
      exact ⟨n + M, v, e, s, ids, execT_le ht hM n _ _ hx, by rw [hz, aveq_true _ h]⟩
    · cases h
  · cases h
end Go.Ax

namespace Go.Ax
set_option linter.unusedVariables false

theorem insI_perm (x : Int) : ∀ l : List Int, (insI x l).Perm (x :: l)
  | [] => List.Perm.refl _
  | y :: r => by
    simp only [insI]
    cases decide (x ≤ y) with
    | true => exact List.Perm.refl _
    | false => exact ((insI_perm x r).cons y).trans (List.Perm.swap x y r)

theorem isort_perm : ∀ l : List Int, (isort l).Perm l
  | [] => List.Perm.refl _
  | x :: r => (insI_perm x (isort r)).trans ((isort_perm r).cons x)

theorem insI_sorted (x : Int) : ∀ l : List Int, l.Pairwise (· ≤ ·) → (insI x l).Pairwise (· ≤ ·)
  | [], _ => by simp [insI]
  | y :: r, h => by
    simp only [List.pairwise_cons] at h
    simp only [insI]
    cases hxy : decide (x ≤ y) with
    | true =>
      have : x ≤ y := of_decide_eq_true hxy
      simp only [cond_true, List.pairwise_cons]
      exact ⟨fun z hz => by
        rcases List.mem_cons.1 hz with rfl | hz
        · exact this
        · exact Int.le_trans this (h.1 z hz), h⟩
    | false =>
      have : ¬ x ≤ y := of_decide_eq_false hxy
      simp only [cond_false, List.pairwise_cons]
      refine ⟨fun z hz => ?_, insI_sorted x r h.2⟩
      have hz' := (insI_perm x r).mem_iff.1 hz
      rcases List.mem_cons.1 hz' with rfl | hz'
      · omega
      · exact h.1 z hz'

theorem isort_sorted : ∀ l : List Int, (isort l).Pairwise (· ≤ ·)
  | [] => List.Pairwise.nil
  | x :: r => insI_sorted x _ (isort_sorted r)

theorem sorted_unique : ∀ {l m : List Int}, l.Perm m → l.Pairwise (· ≤ ·) → m.Pairwise (· ≤ ·) → l = m
  | [], m, h, _, _ => by simpa using h.symm.eq_nil.symm
  | x :: l, [], h, _, _ => by simpa using h.eq_nil
  | x :: l, y :: m, h, h1, h2 => by
    simp only [List.pairwise_cons] at h1 h2
    have hx : x ∈ y :: m := h.mem_iff.1 (by simp)
    have hy : y ∈ x :: l := h.mem_iff.2 (by simp)
    have e : x = y := by
      rcases List.mem_cons.1 hx with e | hx
      · exact e
      · rcases List.mem_cons.1 hy with e | hy
        · exact e.symm
        · have a := h1.1 y hy
          have b := h2.1 x hx
          omega
    subst e
    rw [sorted_unique ((List.perm_cons x).1 h) h1.2 h2.2]

theorem mergeSort_isort (zs : List Int) : (zs.mergeSort fun x y => decide (x ≤ y)) = isort zs := by
  refine sorted_unique ((List.mergeSort_perm zs _).trans (isort_perm zs).symm) ?_ (isort_sorted zs)
  have h := List.pairwise_mergeSort (le := fun x y : Int => decide (x ≤ y)) (fun a b c hab hbc => by simp at *; omega) (fun a b => by simp; omega) zs
  exact h.imp fun h => by simpa using h
end Go.Ax

namespace Go.Ax
set_option linter.unusedVariables false
set_option linter.unusedSimpArgs false
variable {P : Program} {pol : Pol} {cx : Cx}

/-- The call of f in the caller's state answers v and leaves st'. -/
def ExCallS (pol : Pol) (P : Program) (f : FuncId) (args : List AVal) (st : St) (v : AVal) (st' : St) : Prop :=
  ∃ n e, exec pol P n (.call f args st) = some ⟨.val v, e, st'⟩

theorem aresults_env {e1 e : Env} {s1 : St} (h2 : EnvLe e1 e) : ∀ {l : List ResultVar} {ws : List AVal}, aresults P e1 s1 l = some ws → aresults P e s1 l = some ws
  | [], ws, h => h
  | x :: l, ws, h => by
    simp only [aresults] at h ⊢
    cases hx : aresult P e1 s1 x with
    | none => rw [hx] at h; cases h
    | some v =>
      have hx' : aresult P e s1 x = some v := by
        cases x with
        | tmp t => exact h2 t v hx
        | cell a t =>
          simp only [aresult] at hx ⊢
          cases hl : lk a e1 with
          | none => rw [hl] at hx; cases hx
          | some p => rw [hl] at hx; rw [h2 a p hl]; exact hx
      rw [hx] at h; rw [hx']
      simp only at h ⊢
      cases hy : aresults P e1 s1 l with
      | none => rw [hy] at h; cases h
      | some us => rw [hy] at h; rw [aresults_env h2 hy]; exact h

theorem ExCallS.of_run {f : FuncId} {fn : Func} {c : Code} {args : List AVal} {o : Out} {e1 : Env} {st s1 st' : St} {vs : List AVal} {v : AVal} (hf : P.funcs[f]? = some fn) (hb : fn.body = some c) (hn : Nat.ble args.length fn.ntmps = true)
    (h : Run pol P ⟨f, st.next, fn.ntmps, none⟩ c (argEnv 0 args) { st with next := st.next + fn.ntmps } o e1 s1) (ho : (match o with | .norm => true | .ret => true | _ => false) = true)
    (hr : aresults P e1 s1 fn.results.toList = some vs) (hv : packed vs = v) (hs : cond (pol.esc f) s1 { s1 with next := st.next, heap := dropV st.next s1.heap } = st') : ExCallS pol P f args st v st' := by
  obtain ⟨n, e, h1, h2⟩ := h
  subst hs; subst hv
  refine ⟨n + 1, [], ?_⟩
  show acallBody (exec pol P n) pol P f args st = _
  unfold acallBody
  simp only [hf, hb, hn, cond_true, h1]
  cases o with
  | norm => simp only [aresults_env h2 hr]
  | ret => simp only [aresults_env h2 hr]
  | _ => cases ho

theorem op_callS {o : Oper} {c : Call} {env : Env} {st st' : St} {f : FuncId} {args : List AVal} {v : AVal} (ho : o.op = .call c) (hb : isFnCall o.op = true) (ht : atgt pol P env st c = some (.fn f args)) (hs : pol.shared f = true ∨ frzL true st.heap args [] = none) (hso : pol.sorts f = false) (h : ExCallS pol P f args st v st') :
    ∃ n, aoper (exec pol P n) pol cx P env st o = some (v, st', true) := by
  obtain ⟨n, e, h1⟩ := h
  refine ⟨n, ?_⟩
  have hk : acallFn (exec pol P n) pol f args st = some (v, st', true) := by
    unfold acallFn
    rw [hso, cond_false]
    rcases hs with hs | hs
    · simp only [hs, cond_true, acallShared, h1]
    · cases hsh : pol.shared f with
      | true => simp only [cond_true, acallShared, h1]
      | false => simp only [cond_false, hs, acallShared, h1]
  unfold aoper
  rw [ho] at hb ⊢
  obtain ⟨callee, cargs, tys⟩ := c
  cases callee with
  | builtin b => cases hb
  | value x => simp only [acall, ht, hk]
  | invoke x m => simp only [acall, ht, hk]

theorem op_sort {rec : Task → Option Res} {o : Oper} {c : Call} {env : Env} {st st' : St} {f : FuncId} {args : List AVal} (ho : o.op = .call c) (hb : isFnCall o.op = true) (ht : atgt pol P env st c = some (.fn f args)) (hso : pol.sorts f = true) (h : asort st args = some st') :
    aoper rec pol cx P env st o = some (.undef, st', true) := by
  have hk : acallFn rec pol f args st = some (.undef, st', true) := by
    unfold acallFn
    rw [hso, cond_true, h]
    rfl
  unfold aoper
  rw [ho] at hb ⊢
  obtain ⟨callee, cargs, tys⟩ := c
  cases callee with
  | builtin b => cases hb
  | value x => simp only [acall, ht, hk]
  | invoke x m => simp only [acall, ht, hk]

abbrev intl (xs : List Int) : List AVal := xs.map (AVal.int .i64)

theorem intsOf_intl : ∀ xs : List Int, intsOf (intl xs) = some xs
  | [] => rfl
  | x :: r => by
    have h := intsOf_intl r
    simp only [intl, List.map_cons, intsOf] at h ⊢
    rw [h]

theorem asort_sl {st : St} {cxb : Bool} {b : Id} {inc cur low : Nat} {data : Bool} {zs : List Int} (hl : lkI b st.heap = some (.row inc cur low data (intl zs))) (h0 : 0 < zs.length) (hn : zs.length < 4611686018427387904) :
    asort st [.sl cxb b inc cur 0 zs.length 1] = some { st with heap := upI b (.row inc cur (cond (cur == inc) low (Nat.min low 0)) data (intl (isort zs))) st.heap } := by
  unfold asort
  have hr := rowAt_row hl 0 zs.length (by simp)
  have e : (List.drop 0 (intl zs)).take zs.length = intl zs := List.take_of_length_le (by simp)
  rw [e] at hr
  have h1 : (zs.length == 0) = false := by rw [beq_eq_false_iff_ne]; omega
  have h2 : Nat.blt zs.length 4611686018427387904 = true := by
    have : zs.length + 1 ≤ 4611686018427387904 := hn
    exact Nat.ble_eq_true_of_le this
  have h3 : Nat.ble (0 + (List.map (AVal.int IntKind.i64) (isort zs)).length) (intl zs).length = true := Nat.ble_eq_true_of_le (by simp [isort_length])
  have h4 : setAt (intl zs) 0 (List.map (AVal.int IntKind.i64) (isort zs)) = intl (isort zs) := by
    unfold setAt
    simp [isort_length]
  simp only [h1, cond_false, beq_self_eq_true, h2, Bool.and_self, cond_true, hr, intsOf_intl, putCells, hl, h3, h4]

/-! ### the exact environment -/
def RunX (pol : Pol) (P : Program) (cx : Cx) (c : Code) (env : Env) (st : St) (o : Out) (env1 : Env) (st1 : St) : Prop :=
  ∃ n, exec pol P n (.code c cx env st) = some ⟨o, env1, st1⟩

theorem RunX.run {c : Code} {env : Env} {st : St} {o : Out} {e1 : Env} {s1 : St} (h : RunX pol P cx c env st o e1 s1) : Run pol P cx c env st o e1 s1 := by
  obtain ⟨n, h⟩ := h
  exact ⟨n, e1, h, EnvLe.refl _⟩

theorem RunX.region {c : Code} (hc : plainRegion c = true) {env e1 : Env} {st s1 : St} (h : OpsFrom pol P cx (opsOf c) 0 env st e1 s1) : RunX pol P cx c env st .norm e1 s1 := by
  cases c with
  | region id ops draw =>
    cases draw with
    | true => cases hc
    | false =>
      obtain ⟨n, h⟩ := h
      refine ⟨n + 1, ?_⟩
      show acode (exec pol P n) pol P (.region id ops false) cx env st = _
      unfold acode
      simp only [opsOf, List.drop_zero] at h
      simp only [cond_false, h]
  | _ => cases hc

theorem Run.seqX {c a b : Code} (hc : c = .seq a b) {env e1 e2 : Env} {st s1 s2 : St} {o : Out} (h1 : RunX pol P cx a env st .norm e1 s1) (h2 : Run pol P cx b e1 s1 o e2 s2) : Run pol P cx c env st o e2 s2 := by
  subst hc
  obtain ⟨n, ha⟩ := h1
  obtain ⟨m, e', hb, he'⟩ := h2
  refine ⟨max n m + 1, e', ?_, he'⟩
  show acode (exec pol P (max n m)) pol P (.seq a b) cx env st = _
  unfold acode
  simp only [exec_at (Nat.le_max_left n m) ha, exec_at (Nat.le_max_right n m) hb]

theorem RunX.block {c a : Code} {id : Nat} (hc : c = .block id a) {env e1 : Env} {st s1 : St} (h1 : RunX pol P cx a env st .norm e1 s1) : RunX pol P cx c env st .norm e1 s1 := by
  subst hc
  obtain ⟨n, ha⟩ := h1
  refine ⟨n + 1, ?_⟩
  show acode (exec pol P n) pol P (.block id a) cx env st = _
  unfold acode
  simp only [ha]

/-- A range over a function that runs to its end. -/
theorem RunX.range {c : Code} {x : Operand} {params : Array Tmp} {assign body : Code} (hc : c = .rangeFunc x params assign body) {env : Env} {st st' : St} {gf : FuncId} {first captured : List AVal} (hx : aev pol env x = some (.func (.func gf) first captured)) {p0 : Tmp} {ps : List Tmp} (hp : params.toList = p0 :: ps) (hro : roundOk cx st = true) {v : AVal}
    (hcall : ExCallS pol P gf (first ++ [.yld (.v (cx.base + p0)) st.clock] ++ captured) { st with clock := st.clock + 1, heap := upI (.v (cx.base + p0)) (.loop st.clock .ready none cx.fn cx.base cx.nt env (p0 :: ps) assign body) st.heap } v st')
    {f1 : FuncId} {b1 n1 : Nat} {e1 : Env} {ps1 : List Tmp} {a1 c1 : Code} (hlk : lkI (.v (cx.base + p0)) st'.heap = some (.loop st.clock .ready none f1 b1 n1 e1 ps1 a1 c1)) :
    RunX pol P cx c env st .norm env { st' with heap := erI (.v (cx.base + p0)) st'.heap } := by
  subst hc
  obtain ⟨n, e, h⟩ := hcall
  refine ⟨n + 1, ?_⟩
  show acode (exec pol P n) pol P (.rangeFunc x params assign body) cx env st = _
  unfold acode
  simp only
  unfold arange
  rw [← hp] at h
  simp only [hx, hp, hro, cond_true]
  rw [hp] at h
  rw [h]
  simp only [hlk, beq_self_eq_true, cond_true, jumpOut]

/-- A round of a range over a function, which goes on. -/
theorem op_yld {o : Oper} {c : Call} {env : Env} {st st1 st2 : St} {b : Id} {inc : Nat} {args : List AVal} (ho : o.op = .call c) (hb : isFnCall o.op = true) (ht : atgt pol P env st c = some (.yld b inc args))
    {pd : Option Code} {fn : FuncId} {base nt : Nat} {lenv env1 env2 : Env} {params : List Tmp} {assign body : Code} (hl : lkI b st.heap = some (.loop inc .ready pd fn base nt lenv params assign body)) (hk : (args.length == params.length && params.all fun t => Nat.blt t nt) = true)
    (h1 : Run pol P ⟨fn, base, nt, some (b, inc)⟩ assign (setParams params args lenv) st .norm env1 st1)
    {pd1 : Option Code} {fn1 : FuncId} {base1 nt1 : Nat} {lenv1 : Env} {params1 : List Tmp} {assign1 body1 : Code} (hl1 : lkI b st1.heap = some (.loop inc .ready pd1 fn1 base1 nt1 lenv1 params1 assign1 body1)) (htm : tame body = true)
    (h2 : Run pol P ⟨fn, base, nt, some (b, inc)⟩ body env1 { st1 with heap := upI b (.loop inc .busy pd1 fn1 base1 nt1 lenv1 params1 assign1 body1) st1.heap } .norm env2 st2)
    {pd2 : Option Code} {fn2 : FuncId} {base2 nt2 : Nat} {lenv2 : Env} {params2 : List Tmp} {assign2 body2 : Code} (hl2 : lkI b st2.heap = some (.loop inc .busy pd2 fn2 base2 nt2 lenv2 params2 assign2 body2)) :
    ∃ n, aoper (exec pol P n) pol cx P env st o = some (.bool true, { st2 with heap := upI b (.loop inc .ready none fn2 base2 nt2 lenv2 params2 assign2 body2) st2.heap }, true) := by
  obtain ⟨n, e1, ha, hea⟩ := h1
  obtain ⟨m, e2, hb2, heb⟩ := h2.pre htm hea
  refine ⟨max n m, ?_⟩
  have ha' := exec_at (Nat.le_max_left n m) ha
  have hb' := exec_at (Nat.le_max_right n m) hb2
  have hr : around (exec pol P (max n m)) b inc args st = some (.bool true, { st2 with heap := upI b (.loop inc .ready none fn2 base2 nt2 lenv2 params2 assign2 body2) st2.heap }, true) := by
    unfold around
    simp only [hl, beq_self_eq_true, Bool.true_and, hk, cond_true, ha', hl1, hb', hl2]
  unfold aoper
  rw [ho] at hb ⊢
  obtain ⟨callee, cargs, tys⟩ := c
  cases callee with
  | builtin b => cases hb
  | value x => simp only [acall, ht, hr]
  | invoke x m => simp only [acall, ht, hr]
end Go.Ax

namespace Go.Ax
set_option linter.unusedVariables false
set_option linter.unusedSimpArgs false
variable {P : Program} {pol : Pol} {cx : Cx}

theorem natsEq_self : ∀ l : List Nat, natsEq l l = true
  | [] => rfl
  | a :: r => by simp [natsEq, natsEq_self r]

/-- Values that are found equal to themselves. -/
inductive Plain : Nat → AVal → Prop where
  | bool (n : Nat) (b : Bool) : Plain n (.bool b)
  | int (n : Nat) (k : IntKind) (i : Int) : Plain n (.int k i)
  | str (n : Nat) (s : List Nat) : Plain n (.str s)
  | nilptr (n : Nat) : Plain n .nilptr
  | fsl {n : Nat} (tn cxb : Bool) (len : Nat) {cs : List AVal} (h : ∀ x ∈ cs, Plain n x) : Plain (n + 1) (.fsl tn cxb len cs)
  | fptr {n : Nat} (tn : Bool) {cs : List AVal} (h : ∀ x ∈ cs, Plain n x) : Plain (n + 1) (.fptr tn cs)
  | agg {n : Nat} {cs : List AVal} (h : ∀ x ∈ cs, Plain n x) : Plain (n + 1) (.agg cs)
  | tuple {n : Nat} {cs : List AVal} (h : ∀ x ∈ cs, Plain n x) : Plain (n + 1) (.tuple cs)
  | sl (n : Nat) (cxb : Bool) (b : Id) (inc ver off len sz : Nat) : Plain n (.sl cxb b inc ver off len sz)
  | ptr (n : Nat) (b : Id) (inc ver off : Nat) : Plain n (.ptr b inc ver off)

theorem listEqBy_self {f : AVal → AVal → Bool} : ∀ {l : List AVal}, (∀ x ∈ l, f x x = true) → listEqBy f l l = true
  | [], _ => rfl
  | a :: r, h => by simp only [listEqBy, h a (by simp), Bool.true_and]; exact listEqBy_self fun x hx => h x (by simp [hx])

theorem aveq_self {n : Nat} {v : AVal} (h : Plain n v) : aveq (n + 1) v v = true := by
  induction h with
  | bool => simp [aveq]
  | int => simp [aveq]
  | str _ s => simp [aveq, natsEq_self]
  | nilptr => rfl
  | fsl tn cxb len h ih => rw [aveq]; simp only [listEqBy_self ih, beq_self_eq_true, Bool.and_self]
  | fptr tn h ih => rw [aveq]; simp only [listEqBy_self ih, beq_self_eq_true, Bool.and_self]
  | agg h ih => rw [aveq]; exact listEqBy_self ih
  | tuple h ih => rw [aveq]; exact listEqBy_self ih
  | sl => simp [aveq, Id.eq_self]
  | ptr => simp [aveq, Id.eq_self]

theorem Plain.le {n m : Nat} (hnm : n ≤ m) {v : AVal} (h : Plain n v) : Plain m v := by
  induction h generalizing m with
  | bool => exact .bool ..
  | int => exact .int ..
  | str => exact .str ..
  | nilptr => exact .nilptr ..
  | fsl tn cxb len h ih => obtain ⟨k, rfl⟩ : ∃ k, m = k + 1 := ⟨m - 1, by omega⟩; exact .fsl _ _ _ fun x hx => ih x hx (by omega)
  | fptr tn h ih => obtain ⟨k, rfl⟩ : ∃ k, m = k + 1 := ⟨m - 1, by omega⟩; exact .fptr _ fun x hx => ih x hx (by omega)
  | agg h ih => obtain ⟨k, rfl⟩ : ∃ k, m = k + 1 := ⟨m - 1, by omega⟩; exact .agg fun x hx => ih x hx (by omega)
  | tuple h ih => obtain ⟨k, rfl⟩ : ∃ k, m = k + 1 := ⟨m - 1, by omega⟩; exact .tuple fun x hx => ih x hx (by omega)
  | sl => exact .sl ..
  | ptr => exact .ptr ..

theorem Plain.ints (xs : List Int) (n : Nat) : ∀ x ∈ intl xs, Plain n x := fun x hx => by
  obtain ⟨i, _, rfl⟩ := List.mem_map.1 hx
  exact .int ..

/-- From place i on every operation is quiet, and its value equal to itself, but for the last one. -/
def LFrom (pol : Pol) (P : Program) (cx : Cx) (ops : Array Oper) (i : Nat) (env : Env) (st : St) (env1 : Env) (st1 : St) : Prop :=
  ∃ n items, (∀ c0, adrawSeq (exec pol P n) pol cx P ops c0 [] i none (ops.toList.drop i) env st = some (items, env1, st1)) ∧ items.map (fun x => (x.o, x.i)) = (ops.toList.drop i).zipIdx i ∧
    (∀ x ∈ items, x.loud = true ∨ sameAt (exec pol P n) pol cx P ops x st = true) ∧ (∀ x ∈ items, x.loud = true → x.i + 1 = ops.size)

theorem LFrom.last {ops : Array Oper} {i : Nat} {o : Oper} (ho : opAt ops i = some o) (hi : i + 1 = ops.size) (hd : dvar P i o = none) {env e1 : Env} {st s1 : St} {v : AVal} (hw : awanted ops (pickE (o.looksAt ops) env) o = some true)
    (h : ∃ n, aoper (exec pol P n) pol cx P (pickE (o.looksAt ops) env) st o = some (v, s1, true)) (ha : (o.after.all fun e => !Region.binds .any e || Nat.blt e.on i) = true) (hp : aput' cx.nt o.dst v env = some e1) : LFrom pol P cx ops i env st e1 s1 := by
  obtain ⟨n, h⟩ := h
  have hnil : ops.toList.drop (i + 1) = [] := List.drop_of_length_le (by simp; omega)
  refine ⟨n, [⟨i, o, env, v, true, s1⟩], fun c0 => ?_, ?_, fun x hx => ?_, fun x hx _ => ?_⟩
  · rw [drop_opAt ho, hnil]
    have h1 : adraw1 (exec pol P n) pol cx P ops env st o = some (v, s1, true) := by unfold adraw1; rw [hw]; exact h
    have hlo : loudOk (exec pol P n) pol cx P ops c0 [] ⟨i, o, env, v, true, s1⟩ st = true := rfl
    simp only [adrawSeq, hd, h1, ha, cond_true, Bool.not_true, Bool.false_or, hlo, Bool.and_self, hp]
  · rw [drop_opAt ho, hnil]
    rfl
  · simp only [List.mem_singleton] at hx
    subst hx
    exact .inl rfl
  · simp only [List.mem_singleton] at hx
    subst hx
    exact hi

theorem LFrom.step {ops : Array Oper} {i : Nat} {o : Oper} (ho : opAt ops i = some o) (hd : dvar P i o = none) {env e1 e2 : Env} {st s1 s2 : St} {v : AVal} {k : Nat} (hk : k ≤ 999) (hv : Plain k v)
    (h : ∃ n, adraw1 (exec pol P n) pol cx P ops env st o = some (v, s1, false)) (ha : (o.after.all fun e => !Region.binds .any e || Nat.blt e.on i) = true) (hp : aput' cx.nt o.dst v env = some e1) (h2 : LFrom pol P cx ops (i + 1) e1 st e2 s2) : LFrom pol P cx ops i env st e2 s2 := by
  obtain ⟨n, h⟩ := h
  obtain ⟨m, items, h2, h3, h4, h6⟩ := h2
  have h5 := adraw1_mono (exec_le (pol := pol) (P := P) (Nat.le_max_left n m)) h
  refine ⟨max n m, ⟨i, o, env, v, false, s1⟩ :: items, fun c0 => ?_, ?_, fun x hx => ?_, fun x hx hl => ?_⟩
  · rw [drop_opAt ho]
    have h6 := adrawSeq_mono (exec_le (pol := pol) (P := P) (Nat.le_max_right n m)) (h2 c0)
    simp only [adrawSeq, hd, h5, ha, cond_true, Bool.not_false, Bool.true_or, hp, h6, cond_false]
  · rw [drop_opAt ho]
    simp only [List.map_cons, List.zipIdx_cons, h3]
  · rcases List.mem_cons.1 hx with rfl | hx
    · right
      unfold sameAt
      rw [h5]
      exact aveq_self (hv.le hk)
    · exact (h4 x hx).imp id (sameAt_mono (exec_le (pol := pol) (P := P) (Nat.le_max_right n m)))
  · rcases List.mem_cons.1 hx with rfl | hx
    · cases hl
    · exact h6 x hx hl

theorem LFrom.one {ops : Array Oper} {i : Nat} {o : Oper} (ho : opAt ops i = some o) (hd : dvar P i o = none) {env e1 e2 : Env} {st s1 s2 : St} {v : AVal} {k : Nat} (hk : k ≤ 999) (hv : Plain k v) (hw : awanted ops (pickE (o.looksAt ops) env) o = some true)
    (h : ∃ n, aoper (exec pol P n) pol cx P (pickE (o.looksAt ops) env) st o = some (v, s1, false)) (ha : (o.after.all fun e => !Region.binds .any e || Nat.blt e.on i) = true) (hp : aput' cx.nt o.dst v env = some e1) (h2 : LFrom pol P cx ops (i + 1) e1 st e2 s2) : LFrom pol P cx ops i env st e2 s2 := by
  obtain ⟨n, h⟩ := h
  exact LFrom.step ho hd hk hv ⟨n, by unfold adraw1; rw [hw]; exact h⟩ ha hp h2

/-- The last operation is bound behind all others. -/
def lastAll (ops : Array Oper) : Bool :=
  match ops.toList.getLast? with
  | some o => (List.range (ops.size - 1)).all fun j => reach ops o j
  | none => false

theorem Run.drawLast {c : Code} (hc : drawnRegion c = true) {env e1 : Env} {st st' s1 : St} (hv : (dvars P 0 (opsOf c).toList).isEmpty = true) (hap : apartAll (opsOf c) = true) (hla : lastAll (opsOf c) = true) (hs : st' = { st with clock := st.clock + (opsOf c).size }) (h : LFrom pol P cx (opsOf c) 0 env st' e1 s1) : Run pol P cx c env st .norm e1 s1 := by
  cases c with
  | region id ops draw =>
    cases draw with
    | false => cases hc
    | true =>
      obtain ⟨n, items, h1, h2, h3, h4⟩ := h
      subst hs
      refine ⟨n + 1, e1, ?_, EnvLe.refl _⟩
      show acode (exec pol P n) pol P (.region id ops true) cx env st = _
      unfold acode
      have hv0 : dvars P 0 ops.toList = [] := List.isEmpty_iff.1 hv
      simp only [opsOf, List.drop_zero] at h1 h2 h3 h4
      have hm : ∀ x ∈ items, (x.o, x.i) ∈ ops.toList.zipIdx := fun x hx => by
        rw [← h2]
        exact List.mem_map.2 ⟨x, hx, rfl⟩
      have hd : adraw (exec pol P n) pol cx P ops env st = some (e1, s1) := by
        unfold adraw
        have h1' := h1 st.clock
        rw [hv0]
        simp only [layVars, h1']
        have h5 : (items.all fun x => items.all fun y => apartOk ops x y) = true := by
          simp only [apartAll, List.all_eq_true] at hap
          simp only [opsOf] at hap
          exact List.all_eq_true.2 fun x hx => List.all_eq_true.2 fun y hy => hap _ (hm x hx) _ (hm y hy)
        rw [h5]
        simp only [cond_true]
        cases h6 : (items.any (·.loud) || !([] : List DVar).isEmpty) with
        | false => rfl
        | true =>
          have h7 : (items.all fun x => quietOk (exec pol P n) pol cx P ops items [] { st with clock := st.clock + ops.size } x) = true := by
            refine List.all_eq_true.2 fun x hx => ?_
            unfold quietOk
            rcases h3 x hx with hl | hsm
            · rw [hl]; rfl
            · cases hxl : x.loud with
              | true => rfl
              | false =>
                simp only [Bool.false_or, Bool.or_eq_true, Bool.and_eq_true]
                right
                refine ⟨.inr (by simp only [lackAll, lackOf_nil]; exact hsm), List.all_eq_true.2 fun y hy => ?_⟩
                cases hyl : y.loud with
                | false => rfl
                | true =>
                  simp only [Bool.not_true, Bool.false_or, Bool.or_eq_true, Bool.not_eq_true']
                  left
                  have hyi := h4 y hy hyl
                  have hyo : ops.toList.getLast? = some y.o := by
                    obtain ⟨j, hj, hje⟩ := List.mem_iff_getElem.1 (hm y hy)
                    simp only [List.getElem_zipIdx, Prod.mk.injEq, Nat.zero_add] at hje
                    obtain ⟨e1, e2⟩ := hje
                    rw [List.getLast?_eq_getElem?, ← e1]
                    have hjl : j < ops.toList.length := by simpa using hj
                    rw [show ops.toList.length - 1 = j by simp; omega, List.getElem?_eq_getElem hjl]
                  have hxi : x.i < ops.size - 1 := by
                    obtain ⟨j, hj, hje⟩ := List.mem_iff_getElem.1 (hm x hx)
                    simp only [List.getElem_zipIdx, Prod.mk.injEq, Nat.zero_add] at hje
                    obtain ⟨e1, e2⟩ := hje
                    have hjl : j < ops.size := by simpa using hj
                    by_cases he : j = ops.size - 1
                    · exfalso
                      obtain ⟨k, hk, hke⟩ := List.mem_iff_getElem.1 hx
                      obtain ⟨k', hk', hke'⟩ := List.mem_iff_getElem.1 hy
                      have hg : ∀ (q : Nat) (z : DItem), items[q]? = some z → z.i = q := fun q z hz => by
                        have := congrArg (fun l => l[q]?) h2
                        simp only [List.getElem?_map, hz, Option.map_some, List.getElem?_zipIdx] at this
                        cases hoq : ops.toList[q]? with
                        | none => rw [hoq] at this; cases this
                        | some oq =>
                          rw [hoq] at this
                          simp only [Option.map_some, Option.some.injEq, Prod.mk.injEq, Nat.zero_add] at this
                          omega
                      have a1 := hg k x (by rw [List.getElem?_eq_getElem hk, hke])
                      have a2 := hg k' y (by rw [List.getElem?_eq_getElem hk', hke'])
                      have : k = k' := by omega
                      subst this
                      rw [hke] at hke'
                      rw [← hke', hxl] at hyl
                      cases hyl
                    · omega
                  unfold couldBe
                  rw [List.all_eq_false]
                  refine ⟨y, hy, ?_⟩
                  have hb : Nat.blt y.i (y.i + 1) = true := by simp
                  have hr : reach ops y.o x.i = true := by
                    unfold lastAll at hla
                    simp only [opsOf] at hla
                    rw [hyo] at hla
                    exact List.all_eq_true.1 hla x.i (List.mem_range.2 hxi)
                  simp [hyl, hb, hr]
          rw [h7]
          rfl
      simp only [cond_true, hd, opsOf]
  | _ => cases hc

theorem RunX.seq {c a b : Code} (hc : c = .seq a b) {env e1 e2 : Env} {st s1 s2 : St} {o : Out} (h1 : RunX pol P cx a env st .norm e1 s1) (h2 : RunX pol P cx b e1 s1 o e2 s2) : RunX pol P cx c env st o e2 s2 := by
  subst hc
  obtain ⟨n, ha⟩ := h1
  obtain ⟨m, hb⟩ := h2
  refine ⟨max n m + 1, ?_⟩
  show acode (exec pol P (max n m)) pol P (.seq a b) cx env st = _
  unfold acode
  simp only [exec_at (Nat.le_max_left n m) ha, exec_at (Nat.le_max_right n m) hb]
end Go.Ax
