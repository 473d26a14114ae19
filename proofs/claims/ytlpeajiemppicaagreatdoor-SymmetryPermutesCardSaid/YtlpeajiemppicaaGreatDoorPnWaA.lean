/- A larger environment changes nothing: what code does looks only at the slots that it reads. For code without a range over a function. -/
import Derived.Test.YtlpeajiemppicaaGreatDoorPnAzC
namespace Go.Ax
set_option linter.unusedVariables false
set_option linter.unusedSimpArgs false
variable {P : Program} {pol : Pol}

def EnvLe (e e' : Env) : Prop := ∀ t v, lk t e = some v → lk t e' = some v

theorem EnvLe.refl (e : Env) : EnvLe e e := fun _ _ h => h
theorem EnvLe.trans {a b c : Env} (h1 : EnvLe a b) (h2 : EnvLe b c) : EnvLe a c := fun t v h => h2 t v (h1 t v h)
theorem EnvLe.up {e e' : Env} (h : EnvLe e e') (d : Nat) (v : AVal) : EnvLe (Ax.up d v e) (Ax.up d v e') := by
  intro t x hx
  rw [lk_up] at hx ⊢
  split
  · rename_i hd
    rw [if_pos hd] at hx
    exact hx
  · rename_i hd
    rw [if_neg hd] at hx
    exact h t x hx

/-- A check by evaluation that a list of slots is met. -/
theorem EnvLe.of_all : ∀ {e e' : Env}, (∀ p ∈ e, lk p.1 e' = some p.2) → EnvLe e e'
  | [], e', _ => fun t v h => by cases h
  | p :: r, e', hp => fun t v h => by
    simp only [lk] at h
    cases hk : (p.1 == t) with
    | true =>
      rw [hk] at h
      simp only [cond_true, Option.some.injEq] at h
      rw [← beq_iff_eq.1 hk, ← h]
      exact hp p (by simp)
    | false =>
      rw [hk] at h
      exact EnvLe.of_all (e := r) (fun q hq => hp q (by simp [hq])) t v h
theorem EnvLe.nil (e : Env) : EnvLe [] e := fun t v h => by cases h
theorem EnvLe.cons {k : Nat} {v : AVal} {e e' : Env} (h1 : lk k e' = some v) (h2 : EnvLe e e') : EnvLe ((k, v) :: e) e' := by
  intro t x hx
  simp only [lk] at hx
  cases hk : (k == t) with
  | true =>
    rw [hk] at hx
    simp only [cond_true, Option.some.injEq] at hx
    rw [← beq_iff_eq.1 hk, ← hx]
    exact h1
  | false =>
    rw [hk] at hx
    exact h2 t x hx

section
variable {e e' : Env} (he : EnvLe e e')
include he

theorem aev_env {x : Operand} {v : AVal} (h : aev pol e x = some v) : aev pol e' x = some v := by
  cases x with
  | tmp t => exact he t v h
  | const | global | func => exact h

theorem evL_env : ∀ {l : List Operand} {vs : List AVal}, evL pol e l = some vs → evL pol e' l = some vs
  | [], vs, h => h
  | x :: r, vs, h => by
    simp only [evL] at h ⊢
    cases hx : aev pol e x with
    | none => rw [hx] at h; cases h
    | some v =>
      rw [hx] at h; rw [aev_env he hx]
      simp only at h ⊢
      cases hr : evL pol e r with
      | none => rw [hr] at h; cases h
      | some ws => rw [hr] at h; rw [evL_env hr]; exact h

theorem evParts_env : ∀ {l : List (Nat × Operand)} {vs : List (Nat × AVal)}, evParts pol e l = some vs → evParts pol e' l = some vs
  | [], vs, h => h
  | (i, x) :: r, vs, h => by
    simp only [evParts] at h ⊢
    cases hx : aev pol e x with
    | none => rw [hx] at h; cases h
    | some v =>
      rw [hx] at h; rw [aev_env he hx]
      simp only at h ⊢
      cases hr : evParts pol e r with
      | none => rw [hr] at h; cases h
      | some ws => rw [hr] at h; rw [evParts_env hr]; exact h

theorem evO_env {x : Option Operand} {v : Option AVal} (h : evO pol e x = some v) : evO pol e' x = some v := by
  cases x with
  | none => exact h
  | some x =>
    simp only [evO] at h ⊢
    cases hx : aev pol e x with
    | none => rw [hx] at h; cases h
    | some v => rw [hx] at h; rw [aev_env he hx]; exact h

theorem atgt_env {st : St} {c : Call} {r : Tgt} (h : atgt pol P e st c = some r) : atgt pol P e' st c = some r := by
  unfold atgt at *
  cases hx : evL pol e c.args.toList with
  | none => rw [hx] at h; cases h
  | some args =>
    rw [hx] at h; rw [evL_env he hx]
    simp only at h ⊢
    cases hc : c.callee with
    | builtin b => rw [hc] at h; cases h
    | value f =>
      rw [hc] at h
      simp only at h ⊢
      cases hf : aev pol e f with
      | none => rw [hf] at h; cases h
      | some v => rw [hf] at h; rw [aev_env he hf]; exact h
    | invoke f n =>
      rw [hc] at h
      simp only at h ⊢
      cases hf : aev pol e f with
      | none => rw [hf] at h; cases h
      | some v => rw [hf] at h; rw [aev_env he hf]; exact h

theorem aop_env {cx : Cx} {st : St} {o : Oper} {r : OpR} (h : aop pol cx P e st o = some r) : aop pol cx P e' st o = some r := by
  unfold aop at *
  cases ho : o.op with
  | move x | assign x =>
    rw [ho] at h; simp only at h ⊢
    cases hx : aev pol e x with
    | none => rw [hx] at h; cases h
    | some v => rw [hx] at h; rw [aev_env he hx]; exact h
  | nilCheck x =>
    rw [ho] at h; simp only at h ⊢
    cases hx : aev pol e x with
    | none => rw [hx] at h; cases h
    | some v => rw [hx] at h; rw [aev_env he hx]; exact h
  | unOp _ _ x | convert _ _ x | makeInterface _ x | fieldAddr _ x _ | field _ x _ | next x _ | typeAssert x _ _ _ | extract x _ | load _ x =>
    rw [ho] at h; simp only at h ⊢
    cases hx : aev pol e x with
    | none => rw [hx] at h; cases h
    | some v => rw [hx] at h; rw [aev_env he hx]; exact h
  | pick c a b =>
    rw [ho] at h; simp only at h ⊢
    cases hx : aev pol e c with
    | none => rw [hx] at h; cases h
    | some v =>
      rw [hx] at h; rw [aev_env he hx]
      cases v with
      | bool t =>
        try simp only at h ⊢
        cases hy : aev pol e (cond t a b) with
        | none => rw [hy] at h; cases h
        | some w => rw [hy] at h; rw [aev_env he hy]; exact h
      | _ => cases h
  | alloc => rw [ho] at h; exact h
  | box elem x =>
    rw [ho] at h; simp only at h ⊢
    cases hd : o.dst with
    | none => rw [hd] at h; cases h
    | some d =>
      rw [hd] at h; try simp only at h ⊢
      cases hx : aev pol e x with
      | none => rw [hx] at h; cases h
      | some v => rw [hx] at h; rw [aev_env he hx]; exact h
  | build t parts =>
    rw [ho] at h; simp only at h ⊢
    cases hx : evParts pol e parts.toList with
    | none => rw [hx] at h; cases h
    | some v => rw [hx] at h; rw [evParts_env he hx]; exact h
  | buildSlice t len parts =>
    rw [ho] at h; simp only at h ⊢
    cases hd : o.dst with
    | none => rw [hd] at h; cases h
    | some d =>
      rw [hd] at h; try simp only at h ⊢
      cases hx : evParts pol e parts.toList with
      | none => rw [hx] at h; cases h
      | some v => rw [hx] at h; rw [evParts_env he hx]; exact h
  | store _ x y | binOp _ _ x y _ | indexAddr _ x y | index _ x y | lookup _ x y _ =>
    rw [ho] at h; simp only at h ⊢
    cases hx : aev pol e x with
    | none => rw [hx] at h; cases h
    | some v =>
      rw [hx] at h; rw [aev_env he hx]
      try simp only at h ⊢
      cases hy : aev pol e y with
      | none => rw [hy] at h; cases h
      | some w => rw [hy] at h; rw [aev_env he hy]; exact h
  | mapUpdate _ x y z | insert _ x y z =>
    rw [ho] at h; simp only at h ⊢
    cases hx : aev pol e x with
    | none => rw [hx] at h; cases h
    | some v =>
      rw [hx] at h; rw [aev_env he hx]
      try simp only at h ⊢
      cases hy : aev pol e y with
      | none => rw [hy] at h; cases h
      | some w =>
        rw [hy] at h; rw [aev_env he hy]
        try simp only at h ⊢
        cases hz : aev pol e z with
        | none => rw [hz] at h; cases h
        | some u => rw [hz] at h; rw [aev_env he hz]; exact h
  | makeFunc fn fs cs =>
    rw [ho] at h; simp only at h ⊢
    cases hx : evL pol e fs.toList with
    | none => rw [hx] at h; cases h
    | some v =>
      rw [hx] at h; rw [evL_env he hx]
      try simp only at h ⊢
      cases hy : evL pol e cs.toList with
      | none => rw [hy] at h; cases h
      | some w => rw [hy] at h; rw [evL_env he hy]; exact h
  | makeMap t r =>
    rw [ho] at h; simp only at h ⊢
    cases hd : o.dst with
    | none => rw [hd] at h; cases h
    | some d =>
      rw [hd] at h; try simp only at h ⊢
      cases hx : evO pol e r with
      | none => rw [hx] at h; cases h
      | some v => rw [hx] at h; rw [evO_env he hx]; exact h
  | makeSlice t x y =>
    rw [ho] at h; simp only at h ⊢
    cases hd : o.dst with
    | none => rw [hd] at h; cases h
    | some d =>
      rw [hd] at h; try simp only at h ⊢
      cases hx : aev pol e x with
      | none => rw [hx] at h; cases h
      | some v =>
        rw [hx] at h; rw [aev_env he hx]
        try simp only at h ⊢
        cases hy : aev pol e y with
        | none => rw [hy] at h; cases h
        | some w => rw [hy] at h; rw [aev_env he hy]; exact h
  | slice t x lo hi mx =>
    rw [ho] at h; simp only at h ⊢
    cases hx : aev pol e x with
    | none => rw [hx] at h; cases h
    | some v =>
      rw [hx] at h; rw [aev_env he hx]
      try simp only at h ⊢
      cases h1 : evO pol e lo with
      | none => rw [h1] at h; cases h
      | some l =>
        rw [h1] at h; rw [evO_env he h1]
        try simp only at h ⊢
        cases h2 : evO pol e hi with
        | none => rw [h2] at h; cases h
        | some l =>
          rw [h2] at h; rw [evO_env he h2]
          try simp only at h ⊢
          cases h3 : evO pol e mx with
          | none => rw [h3] at h; cases h
          | some l => rw [h3] at h; rw [evO_env he h3]; exact h
  | range t x =>
    rw [ho] at h; simp only at h ⊢
    cases hd : o.dst with
    | none => rw [hd] at h; cases h
    | some d =>
      rw [hd] at h; try simp only at h ⊢
      cases hx : aev pol e x with
      | none => rw [hx] at h; cases h
      | some v => rw [hx] at h; rw [aev_env he hx]; exact h
  | call c =>
    rw [ho] at h; simp only at h ⊢
    cases hc : c.callee with
    | builtin b =>
      rw [hc] at h; simp only at h ⊢
      cases hx : evL pol e c.args.toList with
      | none => rw [hx] at h; cases h
      | some v => rw [hx] at h; rw [evL_env he hx]; exact h
    | value => rw [hc] at h; cases h
    | invoke => rw [hc] at h; cases h
  | _ => rw [ho] at h; first | exact h | cases h

theorem aoper_env {rec : Task → Option Res} {cx : Cx} {st : St} {o : Oper} {r : OpR} (h : aoper rec pol cx P e st o = some r) : aoper rec pol cx P e' st o = some r := by
  unfold aoper at *
  cases ho : o.op with
  | call c =>
    rw [ho] at h; simp only at h ⊢
    cases hc : c.callee with
    | builtin b => rw [hc] at h; exact aop_env he h
    | value f =>
      rw [hc] at h; simp only at h ⊢
      unfold acall at *
      cases ht : atgt pol P e st c with
      | none => rw [ht] at h; cases h
      | some t => rw [ht] at h; rw [atgt_env he ht]; exact h
    | invoke f n =>
      rw [hc] at h; simp only at h ⊢
      unfold acall at *
      cases ht : atgt pol P e st c with
      | none => rw [ht] at h; cases h
      | some t => rw [ht] at h; rw [atgt_env he ht]; exact h
  | _ => rw [ho] at h; exact aop_env he h

theorem awanted_env {ops : Array Oper} {o : Oper} {b : Bool} (h : awanted ops e o = some b) : awanted ops e' o = some b := by
  unfold awanted at *
  cases hg : o.guard with
  | none => rw [hg] at h; exact h
  | some p =>
    obtain ⟨j, want⟩ := p
    rw [hg] at h; simp only at h ⊢
    cases hd : (ops[j]?).bind (·.dst) with
    | none => rw [hd] at h; exact h
    | some d =>
      rw [hd] at h; try simp only at h ⊢
      cases hl : lk d e with
      | none => rw [hl] at h; cases h
      | some v => rw [hl] at h; rw [he d v hl]; exact h

theorem aput_env {nt : Nat} {dst : Option Tmp} {v : AVal} {e1 : Env} (h : aput' nt dst v e = some e1) : ∃ e1', aput' nt dst v e' = some e1' ∧ EnvLe e1 e1' := by
  cases dst with
  | none => cases h; exact ⟨e', rfl, he⟩
  | some d =>
    simp only [aput'] at h ⊢
    cases hb : Nat.blt d nt with
    | false => rw [hb] at h; cases h
    | true => rw [hb] at h; cases h; exact ⟨_, rfl, he.up d v⟩
end

theorem aops_env {rec : Task → Option Res} {cx : Cx} {ops : Array Oper} : ∀ {l : List Oper} {e e' : Env} {st st1 : St} {e1 : Env}, EnvLe e e' → aops rec pol cx P ops l e st = some (e1, st1) → ∃ e1', aops rec pol cx P ops l e' st = some (e1', st1) ∧ EnvLe e1 e1'
  | [], e, e', st, st1, e1, he, h => by cases h; exact ⟨e', rfl, he⟩
  | o :: l, e, e', st, st1, e1, he, h => by
    simp only [aops] at h ⊢
    cases hw : awanted ops e o with
    | none => rw [hw] at h; cases h
    | some t =>
      rw [hw] at h; rw [awanted_env he hw]
      cases t with
      | false =>
        simp only at h ⊢
        cases hp : aput' cx.nt o.dst .undef e with
        | none => rw [hp] at h; cases h
        | some e2 =>
          rw [hp] at h
          obtain ⟨e2', h1, h2⟩ := aput_env he hp
          rw [h1]
          exact aops_env h2 h
      | true =>
        simp only at h ⊢
        cases ho : aoper rec pol cx P e st o with
        | none => rw [ho] at h; cases h
        | some q =>
          rw [ho] at h; rw [aoper_env he ho]
          obtain ⟨v, s1, tch⟩ := q
          simp only at h ⊢
          cases hp : aput' cx.nt o.dst v e with
          | none => rw [hp] at h; cases h
          | some e2 =>
            rw [hp] at h
            obtain ⟨e2', h1, h2⟩ := aput_env he hp
            rw [h1]
            exact aops_env h2 h

/-! ### drawn regions -/
theorem lk_pick_of {env : Env} {k : Nat} {v : AVal} (h : lk k env = some v) : ∀ {ts : List Tmp}, k ∈ ts → lk k (pickE ts env) = some v
  | t :: ts, hm => by
    simp only [pickE]
    by_cases hk : t = k
    · subst hk
      rw [h]
      simp [lk]
    · have hm' : k ∈ ts := by
        rcases List.mem_cons.1 hm with h1 | h1
        · exact absurd h1.symm hk
        · exact h1
      cases ht : lk t env with
      | none => exact lk_pick_of h hm'
      | some u =>
        have : (t == k) = false := by simpa using hk
        simp only [lk, this, cond_false]
        exact lk_pick_of h hm'

theorem EnvLe.pick {e e' : Env} (he : EnvLe e e') (ts : List Tmp) : EnvLe (pickE ts e) (pickE ts e') := fun t v h => by
  obtain ⟨h1, h2⟩ := lk_pickE h
  exact lk_pick_of (he t v h2) h1

theorem adraw1_env {rec : Task → Option Res} {cx : Cx} {ops : Array Oper} {e e' : Env} (he : EnvLe e e') {st : St} {o : Oper} {r : OpR} (h : adraw1 rec pol cx P ops e st o = some r) : adraw1 rec pol cx P ops e' st o = some r := by
  unfold adraw1 at *
  have hp := he.pick (o.looksAt ops)
  cases hw : awanted ops (pickE (o.looksAt ops) e) o with
  | none => rw [hw] at h; cases h
  | some t =>
    rw [hw] at h; rw [awanted_env hp hw]
    cases t with
    | false => exact h
    | true => exact aoper_env hp h

structure ItLe (x y : DItem) : Prop where
  i : x.i = y.i
  o : x.o = y.o
  v : x.v = y.v
  loud : x.loud = y.loud
  st' : x.st' = y.st'
  env : EnvLe x.env y.env

inductive ItsLe : List DItem → List DItem → Prop where
  | nil : ItsLe [] []
  | cons {x y : DItem} {xs ys : List DItem} : ItLe x y → ItsLe xs ys → ItsLe (x :: xs) (y :: ys)

theorem ItsLe.all_eq {f g : DItem → Bool} (hfg : ∀ x y, ItLe x y → f x = g y) : ∀ {xs ys : List DItem}, ItsLe xs ys → xs.all f = ys.all g
  | _, _, .nil => rfl
  | _, _, .cons h hs => by simp only [List.all_cons, hfg _ _ h, ItsLe.all_eq hfg hs]

theorem ItsLe.any_eq {f g : DItem → Bool} (hfg : ∀ x y, ItLe x y → f x = g y) : ∀ {xs ys : List DItem}, ItsLe xs ys → xs.any f = ys.any g
  | _, _, .nil => rfl
  | _, _, .cons h hs => by simp only [List.any_cons, hfg _ _ h, ItsLe.any_eq hfg hs]

theorem ItsLe.all_imp {f g : DItem → Bool} (hfg : ∀ x y, ItLe x y → f x = true → g y = true) : ∀ {xs ys : List DItem}, ItsLe xs ys → xs.all f = true → ys.all g = true
  | _, _, .nil, _ => rfl
  | _, _, .cons h hs, ha => by
    simp only [List.all_cons, Bool.and_eq_true] at ha ⊢
    exact ⟨hfg _ _ h ha.1, ItsLe.all_imp hfg hs ha.2⟩

theorem sameAt_env {rec : Task → Option Res} {cx : Cx} {ops : Array Oper} {x y : DItem} (hxy : ItLe x y) {st : St} (h : sameAt rec pol cx P ops x st = true) : sameAt rec pol cx P ops y st = true := by
  unfold sameAt at *
  cases h1 : adraw1 rec pol cx P ops x.env st x.o with
  | none => rw [h1] at h; cases h
  | some p =>
    rw [h1] at h
    have := adraw1_env hxy.env h1
    rw [hxy.o] at this
    rw [this, ← hxy.v]
    exact h

theorem lackAll_env {ops : Array Oper} {x y : DItem} (hxy : ItLe x y) {p q : List DVar → Bool} (hpq : ∀ un, p un = true → q un = true) : ∀ {l un : List DVar}, lackAll ops x p l un = true → lackAll ops y q l un = true
  | [], un, h => hpq un h
  | z :: r, un, h => by
    simp only [lackAll, Bool.and_eq_true, Bool.or_eq_true] at h ⊢
    rw [← hxy.i, ← hxy.o]
    exact ⟨h.1.imp id (lackAll_env hxy hpq), h.2.imp id (lackAll_env hxy hpq)⟩

theorem loudAt_env {rec : Task → Option Res} {cx : Cx} {ops : Array Oper} {x y : DItem} (hxy : ItLe x y) {st : St} : ∀ {un : List DVar}, loudAt rec pol cx P ops x st un = true → loudAt rec pol cx P ops y st un = true
  | [], _ => rfl
  | z :: r, h => by
    simp only [loudAt] at h ⊢
    cases h1 : adraw1 rec pol cx P ops x.env (lackOf cx (z :: r) st) x.o with
    | none => rw [h1] at h; cases h
    | some p =>
      rw [h1] at h
      have := adraw1_env hxy.env h1
      rw [hxy.o] at this
      rw [this, ← hxy.v, ← hxy.st']
      exact h

theorem loudOk_env {rec : Task → Option Res} {cx : Cx} {ops : Array Oper} {c0 : Nat} {vars : List DVar} {x y : DItem} (hxy : ItLe x y) {st : St} (h : loudOk rec pol cx P ops c0 vars x st = true) : loudOk rec pol cx P ops c0 vars y st = true := by
  simp only [loudOk, Bool.and_eq_true] at h ⊢
  rw [← hxy.o, ← hxy.st']
  exact ⟨h.1, lackAll_env hxy (fun un => loudAt_env hxy) h.2⟩

theorem adrawSeq_env {rec : Task → Option Res} {cx : Cx} {ops : Array Oper} {c0 : Nat} {vars : List DVar} : ∀ {l : List Oper} {i : Nat} {last : Option Nat} {e e' : Env} {st : St} {items : List DItem} {e1 : Env} {s1 : St}, EnvLe e e' →
    adrawSeq rec pol cx P ops c0 vars i last l e st = some (items, e1, s1) → ∃ items' e1', adrawSeq rec pol cx P ops c0 vars i last l e' st = some (items', e1', s1) ∧ EnvLe e1 e1' ∧ ItsLe items items'
  | [], i, last, e, e', st, items, e1, s1, he, h => by
    simp only [adrawSeq, Option.some.injEq, Prod.mk.injEq] at h
    obtain ⟨rfl, rfl, rfl⟩ := h
    exact ⟨[], e', rfl, he, .nil⟩
  | o :: l, i, last, e, e', st, items, e1, s1, he, h => by
    rw [adrawSeq_cons] at h ⊢
    cases hq : adrawV rec pol cx P ops c0 i e st o with
    | none => rw [hq] at h; cases h
    | some q =>
      have hq' : adrawV rec pol cx P ops c0 i e' st o = some q := by
        unfold adrawV at *
        cases hd : dvar P i o with
        | some x => rw [hd] at hq; exact hq
        | none => rw [hd] at hq; exact adraw1_env he hq
      rw [hq] at h
      rw [hq']
      obtain ⟨v, s2, loud⟩ := q
      simp only at h ⊢
      cases h1 : (o.after.all fun e => !Region.binds .any e || Nat.blt e.on i) with
      | false => rw [h1] at h; cases h
      | true =>
        rw [h1] at h
        simp only [cond_true] at h ⊢
        cases h2 : (!loud || (loudOk rec pol cx P ops c0 vars ⟨i, o, e, v, loud, s2⟩ st && lastOk ops o last)) with
        | false => rw [h2] at h; cases h
        | true =>
          have h2' : (!loud || (loudOk rec pol cx P ops c0 vars ⟨i, o, e', v, loud, s2⟩ st && lastOk ops o last)) = true := by
            simp only [Bool.or_eq_true, Bool.and_eq_true] at h2 ⊢
            exact h2.imp id fun h2 => ⟨loudOk_env (x := ⟨i, o, e, v, loud, s2⟩) (y := ⟨i, o, e', v, loud, s2⟩) ⟨rfl, rfl, rfl, rfl, rfl, he⟩ h2.1, h2.2⟩
          rw [h2] at h
          rw [h2']
          simp only [cond_true] at h ⊢
          cases hp : aput' cx.nt o.dst v e with
          | none => rw [hp] at h; cases h
          | some e2 =>
            rw [hp] at h
            obtain ⟨e2', h3, h4⟩ := aput_env he hp
            rw [h3]
            simp only at h ⊢
            cases hr : adrawSeq rec pol cx P ops c0 vars (i + 1) (cond loud (some i) last) l e2 (cond loud s2 st) with
            | none => rw [hr] at h; cases h
            | some p =>
              obtain ⟨it, e3, s3⟩ := p
              obtain ⟨it', e3', h5, h6, h7⟩ := adrawSeq_env h4 hr
              rw [hr] at h
              rw [h5]
              simp only [Option.some.injEq, Prod.mk.injEq] at h
              obtain ⟨rfl, rfl, rfl⟩ := h
              exact ⟨_, _, rfl, h6, .cons ⟨rfl, rfl, rfl, rfl, rfl, he⟩ h7⟩

theorem couldBe_env {ops : Array Oper} {xs ys : List DItem} (hs : ItsLe xs ys) {x y : DItem} (hxy : ItLe x y) (k : Nat) : couldBe ops xs x k = couldBe ops ys y k := by
  unfold couldBe
  exact ItsLe.all_eq (fun a b hab => by rw [hab.loud, hab.i, hab.o, hxy.i, hxy.o]) hs

theorem quietOk_env {rec : Task → Option Res} {cx : Cx} {ops : Array Oper} {xs ys : List DItem} (hs : ItsLe xs ys) {vars : List DVar} {st : St} {x y : DItem} (hxy : ItLe x y) (h : quietOk rec pol cx P ops xs vars st x = true) : quietOk rec pol cx P ops ys vars st y = true := by
  unfold quietOk at *
  simp only [Bool.or_eq_true, Bool.and_eq_true] at h ⊢
  rw [← hxy.loud, ← hxy.i, ← hxy.o, ← couldBe_env hs hxy]
  refine h.imp id fun h => ⟨h.1.imp id (lackAll_env hxy fun un => sameAt_env hxy), ItsLe.all_imp (fun a b hab ha => ?_) hs h.2⟩
  simp only [Bool.or_eq_true] at ha ⊢
  rw [← hab.loud, ← hab.i, ← couldBe_env hs hxy, ← hab.st']
  exact ha.imp id fun ha => ha.imp id (lackAll_env hxy fun un => sameAt_env hxy)

theorem apartOk_env {ops : Array Oper} {x y x' y' : DItem} (hx : ItLe x x') (hy : ItLe y y') : apartOk ops x y = apartOk ops x' y' := by
  unfold apartOk
  rw [hx.i, hx.o, hy.i, hy.o]

theorem adraw_env {rec : Task → Option Res} {cx : Cx} {ops : Array Oper} {e e' : Env} (he : EnvLe e e') {st st1 : St} {e1 : Env} (h : adraw rec pol cx P ops e st = some (e1, st1)) : ∃ e1', adraw rec pol cx P ops e' st = some (e1', st1) ∧ EnvLe e1 e1' := by
  unfold adraw at *
  simp only at h ⊢
  cases hs : adrawSeq rec pol cx P ops st.clock (dvars P 0 ops.toList) 0 none ops.toList e { st with clock := st.clock + ops.size, heap := layVars cx st.clock (dvars P 0 ops.toList) st.heap } with
  | none => rw [hs] at h; cases h
  | some p =>
    obtain ⟨items, e2, s2⟩ := p
    obtain ⟨items', e2', h1, h2, h3⟩ := adrawSeq_env he hs
    rw [hs] at h
    rw [h1]
    simp only at h ⊢
    have ha : (items.all fun x => items.all fun y => apartOk ops x y) = (items'.all fun x => items'.all fun y => apartOk ops x y) :=
      ItsLe.all_eq (fun x x' hx => ItsLe.all_eq (fun y y' hy => apartOk_env hx hy) h3) h3
    rw [← ha, ← ItsLe.any_eq (f := (·.loud)) (fun x y hxy => hxy.loud) h3]
    cases hb : (items.all fun x => items.all fun y => apartOk ops x y) with
    | false => rw [hb] at h; cases h
    | true =>
      rw [hb] at h
      simp only [cond_true] at h ⊢
      cases hc : (items.any (·.loud) || !(dvars P 0 ops.toList).isEmpty) with
      | false => rw [hc] at h; cases h; exact ⟨_, rfl, h2⟩
      | true =>
        rw [hc] at h
        simp only [cond_true] at h ⊢
        cases hd : (items.all fun x => quietOk rec pol cx P ops items (dvars P 0 ops.toList) { st with clock := st.clock + ops.size, heap := layVars cx st.clock (dvars P 0 ops.toList) st.heap } x) with
        | false => rw [hd] at h; cases h
        | true =>
          rw [ItsLe.all_imp (fun x y hxy => quietOk_env h3 hxy) h3 hd]
          rw [hd] at h
          cases h
          exact ⟨_, rfl, h2⟩

/-- No range over a function. -/
def tame : Code → Bool
  | .seq a b => tame a && tame b
  | .cond _ a b => tame a && tame b
  | .block _ a => tame a
  | .loop a => tame a
  | .scope a => tame a
  | .rangeFunc .. => false
  | _ => true

theorem exec_env : ∀ {n : Nat} {c : Code} {cx : Cx} {e e' : Env} {st st1 : St} {o : Out} {e1 : Env}, tame c = true → EnvLe e e' → exec pol P n (.code c cx e st) = some ⟨o, e1, st1⟩ → ∃ e1', exec pol P n (.code c cx e' st) = some ⟨o, e1', st1⟩ ∧ EnvLe e1 e1'
  | 0, c, cx, e, e', st, st1, o, e1, ht, he, h => by cases h
  | n + 1, c, cx, e, e', st, st1, o, e1, ht, he, h => by
    have h' : acode (exec pol P n) pol P c cx e st = some ⟨o, e1, st1⟩ := h
    show ∃ e1', acode (exec pol P n) pol P c cx e' st = some ⟨o, e1', st1⟩ ∧ EnvLe e1 e1'
    clear h
    have h := h'
    clear h'
    unfold acode at *
    cases c with
    | skip | label | exit | goto | ret => cases h; exact ⟨e', rfl, he⟩
    | refuse => cases h
    | rangeFunc => cases ht
    | seq a b =>
      simp only [tame, Bool.and_eq_true] at ht
      simp only at h ⊢
      cases h1 : exec pol P n (.code a cx e st) with
      | none => rw [h1] at h; cases h
      | some p =>
        obtain ⟨o2, e2, s2⟩ := p
        obtain ⟨e2', h3, h4⟩ := exec_env ht.1 he h1
        rw [h1] at h; rw [h3]
        cases o2 with
        | norm => exact exec_env ht.2 h4 h
        | _ => cases h; exact ⟨e2', rfl, h4⟩
    | cond x a b =>
      simp only [tame, Bool.and_eq_true] at ht
      simp only at h ⊢
      cases h1 : aev pol e x with
      | none => rw [h1] at h; cases h
      | some v =>
        rw [h1] at h; rw [aev_env he h1]
        cases v with
        | bool t => exact exec_env (by cases t; exact ht.2; exact ht.1) he h
        | _ => cases h
    | block id a =>
      simp only at h ⊢
      cases h1 : exec pol P n (.code a cx e st) with
      | none => rw [h1] at h; cases h
      | some p =>
        obtain ⟨o2, e2, s2⟩ := p
        obtain ⟨e2', h3, h4⟩ := exec_env (c := a) ht he h1
        rw [h1] at h; rw [h3]
        cases o2 with
        | exit id' =>
          simp only at h ⊢
          cases hb : (id' == id) with
          | true => rw [hb] at h; cases h; exact ⟨e2', rfl, h4⟩
          | false => rw [hb] at h; cases h; exact ⟨e2', rfl, h4⟩
        | _ => cases h; exact ⟨e2', rfl, h4⟩
    | loop a =>
      simp only at h ⊢
      cases h1 : exec pol P n (.code a cx e st) with
      | none => rw [h1] at h; cases h
      | some p =>
        obtain ⟨o2, e2, s2⟩ := p
        obtain ⟨e2', h3, h4⟩ := exec_env (c := a) ht he h1
        rw [h1] at h; rw [h3]
        cases o2 with
        | norm => exact exec_env ht h4 h
        | _ => cases h; exact ⟨e2', rfl, h4⟩
    | scope a =>
      simp only at h ⊢
      cases h1 : exec pol P n (.code a cx e st) with
      | none => rw [h1] at h; cases h
      | some p =>
        obtain ⟨o2, e2, s2⟩ := p
        obtain ⟨e2', h3, h4⟩ := exec_env (c := a) ht he h1
        rw [h1] at h; rw [h3]
        cases o2 with
        | goto => cases h
        | _ => cases h; exact ⟨e2', rfl, h4⟩
    | region id ops draw =>
      cases draw with
      | true =>
        simp only [cond_true] at h ⊢
        cases h1 : adraw (exec pol P n) pol cx P ops e st with
        | none => rw [h1] at h; cases h
        | some p =>
          obtain ⟨e2, s2⟩ := p
          rw [h1] at h; cases h
          obtain ⟨e2', h3, h4⟩ := adraw_env he h1
          rw [h3]
          exact ⟨e2', rfl, h4⟩
      | false =>
        simp only [cond_false] at h ⊢
        cases h1 : aops (exec pol P n) pol cx P ops ops.toList e st with
        | none => rw [h1] at h; cases h
        | some p =>
          obtain ⟨e2, s2⟩ := p
          rw [h1] at h; cases h
          obtain ⟨e2', h3, h4⟩ := aops_env he h1
          rw [h3]
          exact ⟨e2', rfl, h4⟩
end Go.Ax
