/- More fuel changes nothing. -/
import Derived.Test.YtlpeajiemppicaaGreatDoorPnAyK
import GoSem.ClaimChange
import Derived.Below
namespace Go.Ax
set_option linter.unusedVariables false
set_option linter.unusedSimpArgs false
variable {P : Program} {pol : Pol}

def RecLe (f g : Task → Option Res) : Prop := ∀ t r, f t = some r → g t = some r

section
variable {f g : Task → Option Res} (hle : RecLe f g)
include hle

theorem acallShared_mono {fn : FuncId} {args : List AVal} {st : St} {r : OpR} (h : acallShared f fn args st = some r) : acallShared g fn args st = some r := by
  unfold acallShared at *
  cases h1 : f (.call fn args st) with
  | none => rw [h1] at h; cases h
  | some p => rw [h1] at h; rw [hle _ _ h1]; exact h

theorem acallFn_mono {fn : FuncId} {args : List AVal} {st : St} {r : OpR} (h : acallFn f pol fn args st = some r) : acallFn g pol fn args st = some r := by
  unfold acallFn at *
  cases hso : pol.sorts fn with
  | true => rw [hso] at h; exact h
  | false =>
  rw [hso] at h
  simp only [cond_false] at h ⊢
  cases hs : pol.shared fn with
  | true => rw [hs] at h; exact acallShared_mono hle h
  | false =>
    rw [hs] at h
    simp only [cond_false] at h ⊢
    cases hz : frzL true st.heap args [] with
    | none => rw [hz] at h; exact acallShared_mono hle h
    | some p =>
      obtain ⟨a, ids⟩ := p
      rw [hz] at h
      simp only at h ⊢
      cases h1 : f (.call fn a St.init) with
      | none => rw [h1] at h; cases h
      | some p => rw [h1] at h; rw [hle _ _ h1]; exact h

theorem around_mono {b : Id} {inc : Nat} {args : List AVal} {st : St} {r : OpR} (h : around f b inc args st = some r) : around g b inc args st = some r := by
  unfold around at *
  split at h
  · rename_i inc' pd fn base nt env params assign body hl
    try rw [hl]
    simp only at h ⊢
    cases hc : (inc' == inc && args.length == params.length && params.all fun t => Nat.blt t nt) with
    | false => rw [hc] at h; cases h
    | true =>
      rw [hc] at h
      simp only [cond_true] at h ⊢
      cases h1 : f (.code assign ⟨fn, base, nt, some (b, inc)⟩ (setParams params args env) st) with
      | none => rw [h1] at h; cases h
      | some p =>
        rw [h1] at h
        rw [hle _ _ h1]
        obtain ⟨o, e1, s1⟩ := p
        cases o with
        | exit | goto | ret | val => cases h
        | norm =>
          simp only at h ⊢
          split at h
          · rename_i inc1 pd1 fn1 base1 nt1 envL params1 assign1 body1 hl1
            try rw [hl1]
            try simp only at h ⊢
            cases hc1 : (inc1 == inc) with
            | false => rw [hc1] at h; cases h
            | true =>
              rw [hc1] at h
              simp only [cond_true] at h ⊢
              cases h2 : f (.code body ⟨fn, base, nt, some (b, inc)⟩ e1 { s1 with heap := upI b (.loop inc1 .busy pd1 fn1 base1 nt1 envL params1 assign1 body1) s1.heap }) with
              | none => rw [h2] at h; cases h
              | some p => rw [h2] at h; rw [hle _ _ h2]; exact h
          · cases h
  · cases h

theorem acall_mono {env : Env} {st : St} {c : Call} {r : OpR} (h : acall f pol P env st c = some r) : acall g pol P env st c = some r := by
  unfold acall at *
  cases ht : atgt pol P env st c with
  | none => rw [ht] at h; cases h
  | some t =>
    rw [ht] at h
    cases t with
    | fn k args => exact acallFn_mono hle h
    | yld b inc args => exact around_mono hle h

theorem aoper_mono {cx : Cx} {env : Env} {st : St} {o : Oper} {r : OpR} (h : aoper f pol cx P env st o = some r) : aoper g pol cx P env st o = some r := by
  unfold aoper at *
  cases ho : o.op with
  | call c =>
    rw [ho] at h
    simp only at h ⊢
    cases hb : c.callee with
    | builtin b => rw [hb] at h; exact h
    | value x => rw [hb] at h; exact acall_mono hle h
    | invoke x n => rw [hb] at h; exact acall_mono hle h
  | _ => rw [ho] at h; exact h

theorem aops_mono {cx : Cx} {ops : Array Oper} : ∀ {l : List Oper} {env : Env} {st : St} {r : Env × St}, aops f pol cx P ops l env st = some r → aops g pol cx P ops l env st = some r
  | [], env, st, r, h => h
  | o :: l, env, st, r, h => by
    simp only [aops] at h ⊢
    cases hw : awanted ops env o with
    | none => rw [hw] at h; cases h
    | some t =>
      rw [hw] at h
      cases t with
      | false =>
        simp only at h ⊢
        cases hp : aput' cx.nt o.dst .undef env with
        | none => rw [hp] at h; cases h
        | some e => rw [hp] at h; exact aops_mono h
      | true =>
        simp only at h ⊢
        cases ho : aoper f pol cx P env st o with
        | none => rw [ho] at h; cases h
        | some q =>
          rw [ho] at h
          rw [aoper_mono hle ho]
          obtain ⟨v, s1, tch⟩ := q
          simp only at h ⊢
          cases hp : aput' cx.nt o.dst v env with
          | none => rw [hp] at h; cases h
          | some e => rw [hp] at h; exact aops_mono h

theorem adraw1_mono {cx : Cx} {ops : Array Oper} {env : Env} {st : St} {o : Oper} {r : OpR} (h : adraw1 f pol cx P ops env st o = some r) : adraw1 g pol cx P ops env st o = some r := by
  unfold adraw1 at *
  cases hw : awanted ops (pickE (o.looksAt ops) env) o with
  | none => rw [hw] at h; cases h
  | some t =>
    rw [hw] at h
    cases t with
    | false => exact h
    | true => exact aoper_mono hle h

omit hle in
theorem lackAll_mono {ops : Array Oper} {x : DItem} {p q : List DVar → Bool} (hpq : ∀ un, p un = true → q un = true) : ∀ {l un : List DVar}, lackAll ops x p l un = true → lackAll ops x q l un = true
  | [], un, h => hpq un h
  | y :: r, un, h => by
    simp only [lackAll, Bool.and_eq_true, Bool.or_eq_true] at h ⊢
    exact ⟨h.1.imp id (lackAll_mono hpq), h.2.imp id (lackAll_mono hpq)⟩

theorem loudAt_mono {cx : Cx} {ops : Array Oper} {x : DItem} {st : St} : ∀ {un : List DVar}, loudAt f pol cx P ops x st un = true → loudAt g pol cx P ops x st un = true
  | [], _ => rfl
  | y :: r, h => by
    simp only [loudAt] at h ⊢
    cases h1 : adraw1 f pol cx P ops x.env (lackOf cx (y :: r) st) x.o with
    | none => rw [h1] at h; cases h
    | some p => rw [h1] at h; rw [adraw1_mono hle h1]; exact h

theorem loudOk_mono {cx : Cx} {ops : Array Oper} {c0 : Nat} {vars : List DVar} {x : DItem} {st : St} (h : loudOk f pol cx P ops c0 vars x st = true) : loudOk g pol cx P ops c0 vars x st = true := by
  simp only [loudOk, Bool.and_eq_true] at h ⊢
  exact ⟨h.1, lackAll_mono (fun un => loudAt_mono hle) h.2⟩

theorem adrawSeq_mono {cx : Cx} {ops : Array Oper} {c0 : Nat} {vars : List DVar} : ∀ {l : List Oper} {i : Nat} {last : Option Nat} {env : Env} {st : St} {r : List DItem × Env × St}, adrawSeq f pol cx P ops c0 vars i last l env st = some r → adrawSeq g pol cx P ops c0 vars i last l env st = some r
  | [], i, last, env, st, r, h => h
  | o :: l, i, last, env, st, r, h => by
    rw [adrawSeq_cons] at h ⊢
    cases hq : adrawV f pol cx P ops c0 i env st o with
    | none => rw [hq] at h; cases h
    | some q =>
      have hq' : adrawV g pol cx P ops c0 i env st o = some q := by
        unfold adrawV at *
        cases hd : dvar P i o with
        | some x => rw [hd] at hq; exact hq
        | none => rw [hd] at hq; exact adraw1_mono hle hq
      rw [hq] at h
      rw [hq']
      obtain ⟨v, s1, loud⟩ := q
      simp only at h ⊢
      cases h1 : (o.after.all fun e => !Region.binds .any e || Nat.blt e.on i) with
      | false => rw [h1] at h; cases h
      | true =>
        rw [h1] at h
        simp only [cond_true] at h ⊢
        cases h2 : (!loud || (loudOk f pol cx P ops c0 vars ⟨i, o, env, v, loud, s1⟩ st && lastOk ops o last)) with
        | false => rw [h2] at h; cases h
        | true =>
          have h2' : (!loud || (loudOk g pol cx P ops c0 vars ⟨i, o, env, v, loud, s1⟩ st && lastOk ops o last)) = true := by
            simp only [Bool.or_eq_true, Bool.and_eq_true] at h2 ⊢
            exact h2.imp id fun h2 => ⟨loudOk_mono hle h2.1, h2.2⟩
          rw [h2] at h
          rw [h2']
          simp only [cond_true] at h ⊢
          cases hp : aput' cx.nt o.dst v env with
          | none => rw [hp] at h; cases h
          | some e =>
            rw [hp] at h
            simp only at h ⊢
            cases hr : adrawSeq f pol cx P ops c0 vars (i + 1) (cond loud (some i) last) l e (cond loud s1 st) with
            | none => rw [hr] at h; cases h
            | some p => rw [hr] at h; rw [adrawSeq_mono hr]; exact h

theorem sameAt_mono {cx : Cx} {ops : Array Oper} {x : DItem} {st : St} (h : sameAt f pol cx P ops x st = true) : sameAt g pol cx P ops x st = true := by
  unfold sameAt at *
  cases h1 : adraw1 f pol cx P ops x.env st x.o with
  | none => rw [h1] at h; cases h
  | some p => rw [h1] at h; rw [adraw1_mono hle h1]; exact h

theorem quietOk_mono {cx : Cx} {ops : Array Oper} {items : List DItem} {vars : List DVar} {st : St} {x : DItem} (h : quietOk f pol cx P ops items vars st x = true) : quietOk g pol cx P ops items vars st x = true := by
  unfold quietOk at *
  simp only [Bool.or_eq_true, Bool.and_eq_true, List.all_eq_true] at h ⊢
  exact h.imp id fun h => ⟨h.1.imp id (lackAll_mono fun un => sameAt_mono hle), fun y hy => (h.2 y hy).imp id fun h => h.imp id (lackAll_mono fun un => sameAt_mono hle)⟩

theorem adraw_mono {cx : Cx} {ops : Array Oper} {env : Env} {st : St} {r : Env × St} (h : adraw f pol cx P ops env st = some r) : adraw g pol cx P ops env st = some r := by
  unfold adraw at *
  simp only at h ⊢
  cases hs : adrawSeq f pol cx P ops st.clock (dvars P 0 ops.toList) 0 none ops.toList env { st with clock := st.clock + ops.size, heap := layVars cx st.clock (dvars P 0 ops.toList) st.heap } with
  | none => rw [hs] at h; cases h
  | some p =>
    obtain ⟨items, e1, s1⟩ := p
    rw [hs] at h
    rw [adrawSeq_mono hle hs]
    simp only at h ⊢
    cases h1 : (items.all fun x => items.all fun y => apartOk ops x y) with
    | false => rw [h1] at h; cases h
    | true =>
      rw [h1] at h
      simp only [cond_true] at h ⊢
      cases h2 : (items.any (·.loud) || !(dvars P 0 ops.toList).isEmpty) with
      | false => rw [h2] at h; exact h
      | true =>
        rw [h2] at h
        simp only [cond_true] at h ⊢
        cases h3 : (items.all fun x => quietOk f pol cx P ops items (dvars P 0 ops.toList) { st with clock := st.clock + ops.size, heap := layVars cx st.clock (dvars P 0 ops.toList) st.heap } x) with
        | false => rw [h3] at h; cases h
        | true =>
          have : (items.all fun x => quietOk g pol cx P ops items (dvars P 0 ops.toList) { st with clock := st.clock + ops.size, heap := layVars cx st.clock (dvars P 0 ops.toList) st.heap } x) = true :=
            List.all_eq_true.2 fun x hx => quietOk_mono hle (List.all_eq_true.1 h3 x hx)
          rw [this]
          rw [h3] at h
          exact h

theorem arange_mono {cx : Cx} {env : Env} {st : St} {x : Operand} {params : Array Tmp} {assign body : Code} {r : Res} (h : arange f pol cx env st x params assign body = some r) : arange g pol cx env st x params assign body = some r := by
  unfold arange at *
  split at h
  · rename_i gf first captured p0 ps hgv hps
    try rw [hgv, hps]
    simp only at h ⊢
    cases hro : roundOk cx st with
    | false => rw [hro] at h; cases h
    | true =>
      rw [hro] at h
      simp only [cond_true] at h ⊢
      generalize hT : Task.call gf (first ++ [.yld (.v (cx.base + p0)) st.clock] ++ captured) _ = t at h ⊢
      cases h1 : f t with
      | none => rw [h1] at h; cases h
      | some p => rw [h1] at h; rw [hle _ _ h1]; exact h
  · cases h

theorem acode_mono {c : Code} {cx : Cx} {env : Env} {st : St} {r : Res} (h : acode f pol P c cx env st = some r) : acode g pol P c cx env st = some r := by
  unfold acode at *
  cases c with
  | skip | label | exit | goto | ret => exact h
  | refuse => cases h
  | seq a b =>
    simp only at h ⊢
    cases h1 : f (.code a cx env st) with
    | none => rw [h1] at h; cases h
    | some p =>
      rw [h1] at h
      rw [hle _ _ h1]
      obtain ⟨o, e, s⟩ := p
      cases o with
      | norm => exact hle _ _ h
      | _ => exact h
  | cond x a b =>
    simp only at h ⊢
    cases h1 : aev pol env x with
    | none => rw [h1] at h; cases h
    | some v =>
      rw [h1] at h
      cases v with
      | bool t => exact hle _ _ h
      | _ => cases h
  | block id a =>
    simp only at h ⊢
    cases h1 : f (.code a cx env st) with
    | none => rw [h1] at h; cases h
    | some p => rw [h1] at h; rw [hle _ _ h1]; exact h
  | loop a =>
    simp only at h ⊢
    cases h1 : f (.code a cx env st) with
    | none => rw [h1] at h; cases h
    | some p =>
      rw [h1] at h
      rw [hle _ _ h1]
      obtain ⟨o, e, s⟩ := p
      cases o with
      | norm => exact hle _ _ h
      | _ => exact h
  | scope a =>
    simp only at h ⊢
    cases h1 : f (.code a cx env st) with
    | none => rw [h1] at h; cases h
    | some p => rw [h1] at h; rw [hle _ _ h1]; exact h
  | region id ops draw =>
    simp only at h ⊢
    cases draw with
    | true =>
      simp only [cond_true] at h ⊢
      cases h1 : adraw f pol cx P ops env st with
      | none => rw [h1] at h; cases h
      | some p => rw [h1] at h; rw [adraw_mono hle h1]; exact h
    | false =>
      simp only [cond_false] at h ⊢
      cases h1 : aops f pol cx P ops ops.toList env st with
      | none => rw [h1] at h; cases h
      | some p => rw [h1] at h; rw [aops_mono hle h1]; exact h
  | rangeFunc x params assign body => exact arange_mono hle h

theorem acallBody_mono {fn : FuncId} {args : List AVal} {st : St} {r : Res} (h : acallBody f pol P fn args st = some r) : acallBody g pol P fn args st = some r := by
  unfold acallBody at *
  cases h1 : P.funcs[fn]? with
  | none => rw [h1] at h; cases h
  | some fd =>
    rw [h1] at h
    simp only at h ⊢
    cases h2 : fd.body with
    | none => rw [h2] at h; cases h
    | some c =>
      rw [h2] at h
      simp only at h ⊢
      cases h3 : Nat.ble args.length fd.ntmps with
      | false => rw [h3] at h; cases h
      | true =>
        rw [h3] at h
        simp only [cond_true] at h ⊢
        cases h4 : f (.code c ⟨fn, st.next, fd.ntmps, none⟩ (argEnv 0 args) { st with next := st.next + fd.ntmps }) with
        | none => rw [h4] at h; cases h
        | some p => rw [h4] at h; rw [hle _ _ h4]; exact h

theorem step_mono {t : Task} {r : Res} (h : Ax.step pol P f t = some r) : Ax.step pol P g t = some r := by
  cases t with
  | code c cx env st => exact acode_mono hle h
  | call fn args st => exact acallBody_mono hle h
end

theorem exec_succ : ∀ n, RecLe (exec pol P n) (exec pol P (n + 1))
  | 0, t, r, h => by cases h
  | n + 1, t, r, h => step_mono (exec_succ n) h

theorem exec_le {n m : Nat} (h : n ≤ m) : RecLe (exec pol P n) (exec pol P m) := by
  induction m with
  | zero => obtain rfl : n = 0 := by omega
            exact fun _ _ h => h
  | succ m ih =>
    rcases Nat.lt_or_ge n (m + 1) with h1 | h1
    · exact fun t r hr => exec_succ m t r (ih (by omega) t r hr)
    · obtain rfl : n = m + 1 := by omega
      exact fun _ _ h => h
end Go.Ax

namespace Go.Ax
set_option linter.unusedVariables false
set_option linter.unusedSimpArgs false
variable {P : Program} {pol : Pol} {ρ : Loc} {R T : Nat → Prop} {w : World}

mutual
/-- The cells that a reading stands for. -/
def absD {H : Type} : DataW H → List AVal
  | .lit (.bool b) => [.bool b]
  | .lit (.int k n) => [.int k n]
  | .lit (.string s) => [.str (s.map UInt8.toNat)]
  | .nil => [.fsl false true 0 []]
  | .slice es sp => [.fsl false (match sp with | [] => true | _ :: _ => false) es.length (absL es)]
  | .agg ps => absL ps
  | _ => [.undef]
def absL {H : Type} : List (DataW H) → List AVal
  | [] => []
  | d :: r => absD d ++ absL r
end

def layOk (P : Program) : Nat → List Field → Nat → Bool
  | off, [], n => off == n
  | off, f :: r, n => f.offset == off && layOk P (off + P.cellsOf f.type) r n

/-- Types of booleans, integers, strings, slices, structs. -/
def plainT (P : Program) : Nat → TypeId → Bool
  | 0, _ => false
  | n + 1, t => match P.underlying t with
    | some .bool | some (.int _) | some .string => P.cellsOf t == 1
    | some (.slice e) => P.cellsOf t == 1 && plainT P n e
    | some (.struct fs) => layOk P 0 fs.toList (P.cellsOf t) && fs.toList.all fun f => plainT P n f.type
    | _ => false

theorem mapM_opt {α β : Type} {f : α → Option β} : ∀ {l : List α} {r : List β}, l.mapM f = some r → r.length = l.length ∧ ∀ (j : Nat) (x : α) (y : β), l[j]? = some x → r[j]? = some y → f x = some y
  | [], r, h => by simp at h; subst h; exact ⟨rfl, fun j x y h => by simp at h⟩
  | a :: l, r, h => by
    rw [List.mapM_cons] at h
    cases h1 : f a with
    | none => rw [h1] at h; cases h
    | some b =>
      rw [h1] at h
      cases h2 : l.mapM f with
      | none => rw [h2] at h; cases h
      | some s =>
        rw [h2] at h
        cases h
        obtain ⟨a1, a2⟩ := mapM_opt h2
        refine ⟨by simp [a1], fun j x y hx hy => ?_⟩
        cases j with
        | zero => simp only [List.getElem?_cons_zero, Option.some.injEq] at hx hy; subst hx; subst hy; exact h1
        | succ j => exact a2 j x y (by simpa using hx) (by simpa using hy)

theorem FitL.nil : FitL ρ R T w [] [] := ⟨rfl, fun j h => by simp at h⟩
theorem FitL.one {v : AVal} {x : Value} (h : Fit ρ R T w v x) : FitL ρ R T w [v] [x] := ⟨rfl, fun j hj => by
  obtain rfl : j = 0 := by simpa using hj
  exact h⟩

theorem absL_pure {H : Type} : ∀ {ds : List (DataW H)}, (∀ d ∈ ds, allPure (absD d) = true) → allPure (absL ds) = true
  | [], _ => rfl
  | d :: r, h => by
    simp only [absL]
    refine allPure_iff.2 fun x hx => ?_
    rcases List.mem_append.1 hx with hx | hx
    · exact allPure_iff.1 (h d (by simp)) x hx
    · exact allPure_iff.1 (absL_pure fun e he => h e (by simp [he])) x hx

/-- Where each part has n cells. -/
theorem absL_len {H : Type} {n : Nat} : ∀ {ds : List (DataW H)}, (∀ d ∈ ds, (absD d).length = n) → (absL ds).length = ds.length * n
  | [], _ => by simp [absL]
  | d :: r, h => by
    have ih := absL_len (n := n) (ds := r) (fun e he => h e (by simp [he]))
    simp only [absL, List.length_append, List.length_cons, h d (by simp), ih]
    rw [Nat.add_mul, Nat.one_mul, Nat.add_comm]

theorem absL_get {H : Type} {n : Nat} : ∀ {ds : List (DataW H)}, (∀ d ∈ ds, (absD d).length = n) → ∀ (i j : Nat) (d : DataW H), ds[i]? = some d → j < n → (absL ds)[i * n + j]? = (absD d)[j]?
  | [], _, i, j, d, h, _ => by simp at h
  | e :: r, hl, i, j, d, h, hj => by
    have hle := hl e (by simp)
    cases i with
    | zero =>
      simp only [List.getElem?_cons_zero, Option.some.injEq] at h
      subst h
      simp only [absL, Nat.zero_mul, Nat.zero_add]
      rw [List.getElem?_append_left (by rw [hle]; exact hj)]
    | succ i =>
      simp only [absL]
      have e1 : (i + 1) * n + j = n + (i * n + j) := by rw [Nat.add_mul]; omega
      rw [e1, List.getElem?_append_right (by omega), hle, Nat.add_sub_cancel_left]
      exact absL_get (fun e he => hl e (by simp [he])) i j d (by simpa using h) hj

theorem absL_fields {H : Type} {f : Field → Option (DataW H × List MemPlace)} {cs : List Value} : ∀ {l : List Field} {off n : Nat} {r : List (DataW H × List MemPlace)}, l.mapM f = some r → layOk P off l n = true → n = cs.length →
    (∀ fd ∈ l, ∀ d p, f fd = some (d, p) → FitL ρ R T w (absD d) ((cs.drop fd.offset).take (P.cellsOf fd.type)) ∧ (absD d).length = P.cellsOf fd.type) → off ≤ n → FitL ρ R T w (absL (r.map (·.1))) (cs.drop off)
  | [], off, n, r, h, hl, hn, _, _ => by
    simp at h; subst h
    simp only [layOk, beq_iff_eq] at hl
    subst hl
    rw [hn, List.drop_length]
    exact FitL.nil
  | fd :: l, off, n, r, h, hl, hn, hf, hoff => by
    rw [List.mapM_cons] at h
    simp only [layOk, Bool.and_eq_true, beq_iff_eq] at hl
    cases h1 : f fd with
    | none => rw [h1] at h; cases h
    | some b =>
      obtain ⟨d, p⟩ := b
      rw [h1] at h
      cases h2 : l.mapM f with
      | none => rw [h2] at h; cases h
      | some s =>
        rw [h2] at h
        cases h
        obtain ⟨g1, g2⟩ := hf fd (by simp) d p h1
        have hlen : off + P.cellsOf fd.type ≤ n := by
          have := g1.1
          rw [g2, List.length_take, List.length_drop, hl.1] at this
          omega
        have ih := absL_fields (off := off + P.cellsOf fd.type) h2 hl.2 hn (fun fd' h' => hf fd' (by simp [h'])) hlen
        simp only [List.map_cons, absL]
        have e : cs.drop off = (cs.drop fd.offset).take (P.cellsOf fd.type) ++ cs.drop (off + P.cellsOf fd.type) := by
          rw [hl.1, ← List.drop_drop, List.take_append_drop]
        rw [e]
        exact g1.append ih

theorem cells_get' {base : Nat} {a : Addr} {n : Nat} {cs : List Value} (h : w.cells? base a n = some cs) : cs.length = n ∧ ∀ j (hj : j < cs.length), w.cell? (a.add j) = some cs[j] := by
  unfold World.cells? at h
  split at h
  · obtain ⟨h1, h2⟩ := mapM_opt h
    have hl : cs.length = n := by simpa using h1
    exact ⟨hl, fun j hj => h2 j j cs[j] (by rw [List.getElem?_range (by omega)]) (List.getElem?_eq_getElem hj)⟩
  · cases h

theorem trod_struct' {H : Type} {enc : TypeId × Value → H} {base : Nat} {spare : Nat → Bool} {held : Bool} {fuel : Nat} {t : TypeId} {cs : List Value} {x : DataW H × List MemPlace} {fs : Array Field} (ht : P.underlying t = some (.struct fs))
    (h : DataW.trod enc P w base spare held (fuel + 1) t cs = some x) :
    ∃ xs : List (DataW H × List MemPlace), x = (.agg (xs.map (·.1)), xs.flatMap (·.2)) ∧ cs.length = P.cellsOf t ∧ (fs.toList.mapM fun f => DataW.trod enc P w base spare held fuel f.type ((cs.drop f.offset).take (P.cellsOf f.type))) = some xs := by
  unfold DataW.trod at h
  rw [ht] at h
  split at h <;> simp_all
  obtain ⟨hl, xs, hp, hd⟩ := h
  exact ⟨xs, hd.symm, hp⟩

/-- **A reading of plain types fits.** -/
theorem trod_fit {H : Type} {enc : TypeId × Value → H} {base : Nat} {spare : Nat → Bool} {held : Bool} (hfree : ∀ g, g < w.heap.size → Free R T false g) (hsp : ∀ b, spare b = true) :
    ∀ (n : Nat) {t : TypeId}, plainT P n t = true → ∀ (fuel : Nat) {cs : List Value} {d : DataW H} {ps : List MemPlace}, DataW.trod enc P w base spare held fuel t cs = some (d, ps) →
      FitL ρ R T w (absD d) cs ∧ (absD d).length = P.cellsOf t ∧ allPure (absD d) = true
  | 0, t, h, _, _, _, _, _ => by cases h
  | n + 1, t, h, 0, _, _, _, hd => by cases hd
  | n + 1, t, h, fuel + 1, cs, d, ps, hd => by
    simp only [plainT] at h
    have hd0 := hd
    simp only [DataW.trod] at hd
    cases hu : P.underlying t with
    | none => rw [hu] at h; cases h
    | some td =>
      rw [hu] at h
      simp only [hu] at hd
      cases td with
      | bool =>
        simp only [beq_iff_eq] at h
        rcases cs with _ | ⟨v, _ | ⟨u, r⟩⟩
        · simp at hd
        · cases v <;> simp at hd
          obtain ⟨rfl, rfl⟩ := hd
          exact ⟨FitL.one (.bool _), by simp [absD, h], rfl⟩
        · cases v <;> simp at hd
      | int k =>
        simp only [beq_iff_eq] at h
        rcases cs with _ | ⟨v, _ | ⟨u, r⟩⟩
        · simp at hd
        · cases v <;> simp at hd
          obtain ⟨⟨rfl, _⟩, rfl, rfl⟩ := hd
          exact ⟨FitL.one (.int _ _), by simp [absD, h], rfl⟩
        · cases v <;> simp at hd
      | string =>
        simp only [beq_iff_eq] at h
        rcases cs with _ | ⟨v, _ | ⟨u, r⟩⟩
        · simp at hd
        · cases v <;> simp at hd
          obtain ⟨_, rfl, rfl⟩ := hd
          exact ⟨FitL.one (.str _), by simp [absD, h], rfl⟩
        · cases v <;> simp at hd
      | struct fs =>
        simp only [Bool.and_eq_true, List.all_eq_true] at h
        obtain ⟨h1, h2⟩ := h
        obtain ⟨xs, hx0, hcl, hm⟩ := trod_struct' hu hd0
        cases hx0
        have ih := fun (fd : Field) (hf : fd ∈ fs.toList) (d : DataW H) (p : List MemPlace) (hh : DataW.trod enc P w base spare held fuel fd.type ((cs.drop fd.offset).take (P.cellsOf fd.type)) = some (d, p)) => trod_fit hfree hsp n (h2 fd hf) fuel (cs := (cs.drop fd.offset).take (P.cellsOf fd.type)) (d := d) (ps := p) hh
        have hfit := absL_fields (w := w) (ρ := ρ) (R := R) (T := T) hm h1 hcl.symm (fun fd hf d p hh => ⟨(ih fd hf d p hh).1, (ih fd hf d p hh).2.1⟩) (Nat.zero_le _)
        rw [List.drop_zero] at hfit
        refine ⟨hfit, by rw [← hcl]; exact hfit.1.symm, absL_pure fun d hd => ?_⟩
        obtain ⟨x, hx, rfl⟩ := List.mem_map.1 hd
        obtain ⟨j, hj⟩ := List.mem_iff_getElem?.1 hx
        obtain ⟨m1, m2⟩ := mapM_opt hm
        have hjl : j < fs.toList.length := by rw [← m1]; exact (List.getElem?_eq_some_iff.1 hj).1
        have := m2 j fs.toList[j] x (List.getElem?_eq_getElem hjl) hj
        exact (ih fs.toList[j] (List.getElem_mem hjl) x.1 x.2 this).2.2
      | slice e =>
        simp only [Bool.and_eq_true, beq_iff_eq] at h
        obtain ⟨h1, h2⟩ := h
        rcases cs with _ | ⟨v, _ | ⟨u, r⟩⟩
        · simp at hd
        · cases v <;> try (simp at hd; done)
          rename_i A len cap
          cases A with
          | none =>
            cases len with
            | succ => simp at hd
            | zero =>
              cases cap with
              | succ => simp at hd
              | zero =>
                simp only [Option.some.injEq, Prod.mk.injEq] at hd
                obtain ⟨rfl, rfl⟩ := hd
                exact ⟨FitL.one (.fsl false true 0 [] none 0 (fun _ => undef) (Nat.le_refl _) (fun _ => rfl) (fun h => by omega) (fun j h => by simp at h) (fun j h => by simp at h) rfl), by simp [absD, h1], rfl⟩
          | some a =>
            simp only at hd
            split at hd
            · rename_i hcond
              generalize hel : (fun i : Nat => (w.cells? base (a.add (i * P.cellsOf e)) (P.cellsOf e)).bind (DataW.trod enc P w base spare held fuel e)) = elemAt at hd
              have hel' : ∀ i, (w.cells? base (a.add (i * P.cellsOf e)) (P.cellsOf e)).bind (DataW.trod enc P w base spare held fuel e) = elemAt i := fun i => by rw [← hel]
              simp only [hsp, if_true, hel'] at hd
              cases hm : (List.range len).mapM elemAt with
              | none => rw [hm] at hd; simp at hd
              | some elems =>
                rw [hm] at hd
                simp only [Option.bind_some] at hd
                cases hr : (List.range (cap - len)).mapM fun j => elemAt (len + j) with
                | none => rw [hr] at hd; simp at hd
                | some rest =>
                  rw [hr] at hd
                  simp only [Option.map_some, Option.some.injEq, Prod.mk.injEq] at hd
                  obtain ⟨rfl, rfl⟩ := hd
                  obtain ⟨m1, m2⟩ := mapM_opt hm
                  obtain ⟨r1, _⟩ := mapM_opt hr
                  simp only [List.length_range] at m1 r1
                  have hone : ∀ (i : Nat) (x : DataW H × List MemPlace), elems[i]? = some x → ∃ ci, w.cells? base (a.add (i * P.cellsOf e)) (P.cellsOf e) = some ci ∧ FitL ρ R T w (absD x.1) ci ∧ (absD x.1).length = P.cellsOf e ∧ allPure (absD x.1) = true := fun i x hx => by
                    have hi : i < len := by rw [← m1]; exact (List.getElem?_eq_some_iff.1 hx).1
                    have := m2 i i x (by rw [List.getElem?_range hi]) hx
                    rw [← hel' i] at this
                    cases hc : w.cells? base (a.add (i * P.cellsOf e)) (P.cellsOf e) with
                    | none => rw [hc] at this; simp at this
                    | some ci =>
                      rw [hc] at this
                      simp only [Option.bind_some] at this
                      exact ⟨ci, rfl, trod_fit hfree hsp n h2 fuel (d := x.1) (ps := x.2) this⟩
                  have hmem : ∀ d ∈ elems.map (·.1), (absD d).length = P.cellsOf e ∧ allPure (absD d) = true := fun d hd => by
                    obtain ⟨x, hx, rfl⟩ := List.mem_map.1 hd
                    obtain ⟨j, hj⟩ := List.mem_iff_getElem?.1 hx
                    obtain ⟨_, _, _, k2, k3⟩ := hone j x hj
                    exact ⟨k2, k3⟩
                  have hlen : (absL (elems.map (·.1))).length = len * P.cellsOf e := by rw [absL_len fun d hd => (hmem d hd).1]; simp [m1]
                  have hcell : ∀ j (hj : j < (absL (elems.map (·.1))).length), ∃ v, w.cell? (a.add j) = some v ∧ Fit ρ R T w (absL (elems.map (·.1)))[j] v := fun j hj => by
                    have hpos : 0 < P.cellsOf e := by
                      rcases Nat.eq_zero_or_pos (P.cellsOf e) with h0 | h0
                      · rw [hlen, h0] at hj; omega
                      · exact h0
                    have hi : j / P.cellsOf e < len := Nat.div_lt_of_lt_mul (by rw [Nat.mul_comm, ← hlen]; exact hj)
                    have ho := Nat.mod_lt j hpos
                    have hje : j / P.cellsOf e * P.cellsOf e + j % P.cellsOf e = j := by rw [Nat.mul_comm]; exact Nat.div_add_mod j _
                    have hx : elems[j / P.cellsOf e]? = some (elems[j / P.cellsOf e]'(by rw [m1]; exact hi)) := List.getElem?_eq_getElem _
                    obtain ⟨ci, k1, k2, k3, _⟩ := hone _ _ hx
                    obtain ⟨c1, c2⟩ := cells_get' k1
                    have hget := absL_get (ds := elems.map (·.1)) (fun d hd => (hmem d hd).1) (j / P.cellsOf e) (j % P.cellsOf e) (elems[j / P.cellsOf e]'(by rw [m1]; exact hi)).1 (by rw [List.getElem?_map, hx]; rfl) ho
                    rw [hje] at hget
                    refine ⟨ci[j % P.cellsOf e]'(by omega), ?_, ?_⟩
                    · have := c2 (j % P.cellsOf e) (by omega)
                      rw [add_add, hje] at this
                      exact this
                    · have h5 := k2.2 (j % P.cellsOf e) (by omega)
                      have e1 : (absL (elems.map (·.1)))[j] = (absD (elems[j / P.cellsOf e]'(by rw [m1]; exact hi)).1)[j % P.cellsOf e]'(by omega) := by
                        rw [List.getElem?_eq_getElem hj, List.getElem?_eq_getElem (by omega)] at hget
                        exact Option.some.inj hget
                      rw [e1]
                      have e2 : ci.getD (j % P.cellsOf e) undef = ci[j % P.cellsOf e]'(by omega) := by
                        rw [List.getD_eq_getElem?_getD, List.getElem?_eq_getElem (by omega)]; rfl
                      rw [e2] at h5; exact h5
                  have hpure := absL_pure fun d hd => (hmem d hd).2
                  refine ⟨?_, by simp [absD, h1], by simp [absD, allPure, AVal.pure]⟩
                  have hl2 : (elems.map (·.1)).length = len := by simp [m1]
                  simp only [absD, hl2]
                  refine FitL.one (.fsl false _ len _ (some a) cap (fun j => (w.cell? (a.add j)).getD undef) hcond.2.1 (fun hcx => ?_) (fun _ => ⟨a, rfl⟩) (fun j hj => ?_) (fun j hj => ?_) hpure)
                  · cases rest with
                    | nil => simp at r1; omega
                    | cons => simp at hcx
                  · obtain ⟨v, v1, _⟩ := hcell j hj
                    have hlt := cell_lt v1
                    rw [add_block] at hlt
                    exact ⟨a, rfl, hfree _ hlt, by rw [v1]; rfl⟩
                  · obtain ⟨v, v1, v2⟩ := hcell j hj
                    rw [v1]; exact v2
            · cases hd
        · cases v <;> simp at hd
      | _ => cases h
end Go.Ax

namespace Go.Ax
set_option linter.unusedVariables false
set_option linter.unusedSimpArgs false
variable {P : Program} {pol : Pol} {w : World}

/-- Nothing is owned, nothing is lent. -/
abbrev Out0 (w : World) : AVal → Value → Prop := Fit (fun _ _ => none) (fun _ => False) (fun _ => False) w

abbrev Out0L (w : World) (xs : List AVal) (vs : List Value) : Prop := FitL (fun _ _ => none) (fun _ => False) (fun _ => False) w xs vs

theorem free0 (w : World) : ∀ g, g < w.heap.size → Free (fun _ => False) (fun _ => False) false g := fun g _ => ⟨id, fun _ => id⟩

theorem rs0 : Rs (fun _ _ => none) St.init.heap (fun _ => False) = fun _ => False := funext fun g => propext ⟨fun h => h.elim (fun h => own_none h) id, False.elim⟩

theorem good0 (w : World) : Good (fun _ _ => none) (fun _ => False) (fun _ => False) St.init w where
  inj := fun _ _ _ _ _ h => by cases h
  lt := fun _ _ _ h => by cases h
  fresh := fun _ _ _ => rfl
  ids := fun _ _ _ _ h => by cases h
  blk := fun _ _ h => by cases h
  sep := fun g h => absurd h own_none
  res := fun g h => h.elim
  tnt := fun g h => h.elim

theorem exec_top (hP : Sane pol P) (hm : P.follows .mixedOrders = true) {n : Nat} {f : FuncId} {args : List AVal} {b : Bool} {e : Env} {st' : St} (h : exec pol P n (.call f args St.init) = some ⟨.val (.bool b), e, st'⟩)
    (hgl : ∀ g cells, pol.glob g = some cells → Out0 w (.fptr false cells) (.pointer (some ⟨g, 0, none⟩))) {xs : List Value} (hf : Out0L w args xs) :
    Calls P f xs.toArray w fun e w' => e = .returned (.bool b) ∧ RowKit.Below w.heap.size w w' := by
  have hc := exec_calls (ρ := fun _ _ => none) (T := fun _ => False) (Res := fun _ => False) (w := w) hP hm h (good0 w) (by rw [rs0]; exact hgl) (xs := xs) (by rw [rs0]; exact hf)
  refine callsIn_wide.1 (hc.mono fun e w' he => ?_)
  cases e with
  | panicked | outgrown => exact he.elim
  | returned x =>
    obtain ⟨ρ', h1, h2, _⟩ := he
    cases h1
    exact ⟨rfl, h2.os, h2.tape, h2.output, h2.size, fun g hg => h2.frame g hg own_none⟩
end Go.Ax
