/- The abstract interpreter: every operation that isn't a call of a function. -/
import Derived.Test.YtlpeajiemppicaaGreatDoorPnAyA
namespace Go.Ax
set_option linter.unusedVariables false
set_option linter.unusedSimpArgs false
variable {P : Program} {pol : Pol} {ρ : Loc} {R T : Nat → Prop} {w : World}

/-- What an operation does. -/
def OpOk (P : Program) (ρ : Loc) (Res T : Nat → Prop) (st st' : St) (w : World) (s : Sem Next) (v : AVal) (tch : Bool) : Prop :=
  ∃ nx x w' ρ', s.run P w = .ok nx w' ∧ (nx = .value x ∨ (nx = .skip ∧ x = undef)) ∧ Fit ρ' (Rs ρ' st'.heap Res) T w' v x ∧ Ev ρ ρ' st st' w w' ∧ Good ρ' Res T st' w' ∧ (tch = false → st' = st ∧ ρ' = ρ)

theorem OpOk.quiet {Res : Nat → Prop} {st : St} (hg : Good ρ Res T st w) {s : Sem Next} {v : AVal} {x : Value} {tch : Bool} (h : s.run P w = .ok (.value x) w) (hf : Fit ρ (Rs ρ st.heap Res) T w v x) : OpOk P ρ Res T st st w s v tch :=
  ⟨_, x, w, ρ, h, .inl rfl, hf, Ev.refl .., hg, fun _ => ⟨rfl, rfl⟩⟩

theorem run_v {s : Sem Value} {x : Value} {w w' : World} (h : s.run P w = .ok x w') : (do pure (.value (← s)) : Sem Next).run P w = .ok (.value x) w' := by
  simp only [Sem.run_bind, h, Result.andThen_ok, Sem.run_pure]

theorem OpOk.loud {Res : Nat → Prop} {st st' : St} {s : Sem Value} {v : AVal} (h : Loud P ρ Res T st st' w s v) : OpOk P ρ Res T st st' w (do pure (.value (← s))) v true := by
  obtain ⟨z, w', ρ', h1, h2, h3, h4⟩ := h
  exact ⟨_, z, w', ρ', run_v h1, .inl rfl, h2, h3, h4, fun h => by cases h⟩

theorem OpOk.stored {Res : Nat → Prop} {st st' : St} {s : Sem Unit} (h : ∃ w' ρ', s.run P w = .ok () w' ∧ Ev ρ ρ' st st' w w' ∧ Good ρ' Res T st' w') : OpOk P ρ Res T st st' w (do s; pure .skip) .undef true := by
  obtain ⟨w', ρ', h1, h3, h4⟩ := h
  exact ⟨.skip, undef, w', ρ', by simp only [Sem.run_bind, h1, Result.andThen_ok, Sem.run_pure], .inr ⟨rfl, rfl⟩, .tuple [] #[] rfl (fun j h => by simp at h), h3, h4, fun h => by cases h⟩

theorem quietR_some {v : Option AVal} {st st' : St} {u : AVal} {t : Bool} (h : quietR v st = some (u, st', t)) : v = some u ∧ st' = st ∧ t = false := by
  cases v with
  | none => cases h
  | some a => simp only [quietR, Option.some.injEq, Prod.mk.injEq] at h; exact ⟨by rw [h.1], h.2.1.symm, h.2.2.symm⟩
theorem loudR_some {v : Option (AVal × St)} {st' : St} {u : AVal} {t : Bool} (h : loudR v = some (u, st', t)) : v = some (u, st') ∧ t = true := by
  cases v with
  | none => cases h
  | some a => obtain ⟨a, b⟩ := a; simp only [loudR, Option.some.injEq, Prod.mk.injEq] at h; exact ⟨by rw [h.1, h.2.1], h.2.2.symm⟩
theorem storeR_some {v : Option St} {st' : St} {u : AVal} {t : Bool} (h : storeR v = some (u, st', t)) : v = some st' ∧ u = .undef ∧ t = true := by
  cases v with
  | none => cases h
  | some a => simp only [storeR, Option.some.injEq, Prod.mk.injEq] at h; exact ⟨by rw [h.2.1], h.1.symm, h.2.2.symm⟩

theorem run_asBool (b : Bool) (w : World) : (asBool (.bool b)).run P w = .ok b w := by simp [asBool]

theorem aop_builtin {st st' : St} {a : Act} {o : Oper} {c : Call} {b : Builtin} {v : AVal} {tch : Bool} {cx : Cx} {Res : Nat → Prop} (hg : Good ρ Res T st w)
    {args : List AVal} (ha : FitL ρ (Rs ρ st.heap Res) T w args (c.args.toList.map a.eval)) (ho : o.op = .call c) (hc : c.callee = .builtin b) (h : abuiltin pol cx P o.dst b c.argTypes.toList args st = some (v, st', tch)) :
    OpOk P ρ Res T st st' w (execOp a.eval o) v tch := by
  obtain ⟨cs, hres⟩ : ∃ cs, ∀ w, (execOp a.eval o).run P w = (builtin b c.argTypes.toList.toArray o.type cs (c.args.toList.map a.eval).toArray).run P w := by
    apply Exists.intro
    intro w
    simp only [execOp, ho, resolve, hc, Sem.run_bind, Sem.run_pure, Result.andThen_ok, invoke]
    have hX : c.args.map a.eval = (c.args.toList.map a.eval).toArray := by rw [← Array.toList_map]
    rw [hX]
  unfold OpOk
  simp only [hres]
  generalize c.args.toList.map a.eval = xs at ha
  generalize c.argTypes.toList = ts at h
  obtain ⟨hl, hf⟩ := ha
  unfold abuiltin at h
  split at h
  · rename_i t ts' x rest
    replace h := quietR_some h; obtain ⟨h, rfl, rfl⟩ := h
    match xs, hl with
    | X :: xs, hl =>
      have hx : Fit ρ (Rs ρ st'.heap Res) T w x X := hf 0 (by simp)
      obtain ⟨z, h1, h2⟩ := alen_ok (ts := (t :: ts').toArray) (xs := (X :: xs).toArray) (ty := o.type) hg h hx rfl rfl
      exact ⟨_, z, w, ρ, by simp only [builtin]; exact run_v h1, .inl rfl, h2, Ev.refl .., hg, fun _ => ⟨rfl, rfl⟩⟩
  · rename_i sT xT ts' s x
    cases hd : o.dst with
    | none => rw [hd] at h; cases h
    | some d =>
      rw [hd] at h
      replace h := loudR_some h; obtain ⟨h, rfl⟩ := h
      match xs, hl with
      | [S, X], hl =>
        obtain ⟨z, w', ρ', h1, h2, h3, h4⟩ := aappend_ok (ts := (sT :: xT :: ts').toArray) (ty := o.type) hg h (hf 0 (by simp)) (hf 1 (by simp)) rfl rfl
        exact ⟨_, z, w', ρ', by simp only [builtin]; exact run_v h1, .inl rfl, h2, h3, h4, fun h => by cases h⟩
  · rename_i dT ts' d x
    replace h := loudR_some h; obtain ⟨h, rfl⟩ := h
    match xs, hl with
    | [D, X], hl =>
      obtain ⟨z, w', ρ', h1, h2, h3, h4⟩ := acopy_ok (ts := (dT :: ts').toArray) (ty := o.type) hg h (hf 0 (by simp)) (hf 1 (by simp)) rfl
      exact ⟨_, z, w', ρ', by simp only [builtin]; exact run_v h1, .inl rfl, h2, h3, h4, fun h => by cases h⟩
  · rename_i t ts' x
    replace h := storeR_some h; obtain ⟨h, rfl, rfl⟩ := h
    match xs, hl with
    | [X], hl =>
      obtain ⟨z, w', ρ', h1, h2, h3, h4⟩ := aclear_ok (ts := (t :: ts').toArray) (ty := o.type) hg h (hf 0 (by simp)) rfl
      exact ⟨_, z, w', ρ', by simp only [builtin]; exact run_v h1, .inl rfl, h2, h3, h4, fun h => by cases h⟩
  · rename_i ts' x rest
    replace h := quietR_some h; obtain ⟨h, rfl, rfl⟩ := h
    match xs, hl with
    | X :: xs, hl =>
      obtain ⟨z, h1, h2⟩ := aminL_ok (P := P) (isMax := true) (xs := xs) h (hf 0 (by simp)) ⟨by simpa using hl, fun j hj => by
        have := hf (j + 1) (by simpa using hj); simpa using this⟩
      exact ⟨_, z, w, ρ, by simp only [builtin, Builtin.max_]; exact run_v (h1 w), .inl rfl, h2, Ev.refl .., hg, fun _ => ⟨rfl, rfl⟩⟩
  · rename_i ts' x rest
    replace h := quietR_some h; obtain ⟨h, rfl, rfl⟩ := h
    match xs, hl with
    | X :: xs, hl =>
      obtain ⟨z, h1, h2⟩ := aminL_ok (P := P) (isMax := false) (xs := xs) h (hf 0 (by simp)) ⟨by simpa using hl, fun j hj => by
        have := hf (j + 1) (by simpa using hj); simpa using this⟩
      exact ⟨_, z, w, ρ, by simp only [builtin, Builtin.min_]; exact run_v (h1 w), .inl rfl, h2, Ev.refl .., hg, fun _ => ⟨rfl, rfl⟩⟩
  · cases h

section
variable {env : Env} {st st' : St} {a : Act} {o : Oper} {v : AVal} {tch : Bool} {cx : Cx} {Res : Nat → Prop} (hg : Good ρ Res T st w) (he : EnvOk ρ (Rs ρ st.heap Res) T w env a.tmps) (hgl : GlobOk pol ρ (Rs ρ st.heap Res) T w)
include hg he hgl

theorem aop_move {x : Operand} (ho : o.op = .move x) (h : aop pol cx P env st o = some (v, st', tch)) : OpOk P ρ Res T st st' w (execOp a.eval o) v tch := by
  have E : ∀ {x : Operand} {v : AVal}, aev pol env x = some v → Fit ρ (Rs ρ st.heap Res) T w v (a.eval x) := fun h => aev_ok he hgl h
  simp only [aop, ho] at h
  simp only [execOp, ho]
  replace h := quietR_some h; obtain ⟨h, rfl, rfl⟩ := h
  exact .quiet hg (by simp) (E h)


theorem aop_assign {x : Operand} (ho : o.op = .assign x) (h : aop pol cx P env st o = some (v, st', tch)) : OpOk P ρ Res T st st' w (execOp a.eval o) v tch := by
  have E : ∀ {x : Operand} {v : AVal}, aev pol env x = some v → Fit ρ (Rs ρ st.heap Res) T w v (a.eval x) := fun h => aev_ok he hgl h
  simp only [aop, ho] at h
  simp only [execOp, ho]
  replace h := quietR_some h; obtain ⟨h, rfl, rfl⟩ := h
  exact .quiet hg (by simp) (E h)


theorem aop_pick {c x y : Operand} (ho : o.op = .pick c x y) (h : aop pol cx P env st o = some (v, st', tch)) : OpOk P ρ Res T st st' w (execOp a.eval o) v tch := by
  have E : ∀ {x : Operand} {v : AVal}, aev pol env x = some v → Fit ρ (Rs ρ st.heap Res) T w v (a.eval x) := fun h => aev_ok he hgl h
  simp only [aop, ho] at h
  simp only [execOp, ho]
  split at h
  · rename_i t hc
    replace h := quietR_some h; obtain ⟨h, rfl, rfl⟩ := h
    have hc' := E hc
    generalize a.eval c = C at hc'
    cases hc'
    cases t with
    | true => exact .quiet hg (by simp only [Sem.run_bind, run_asBool, Result.andThen_ok, Sem.run_pure, if_true]; rfl) (E h)
    | false => exact .quiet hg (by simp only [Sem.run_bind, run_asBool, Result.andThen_ok, Sem.run_pure, Bool.false_eq_true, if_false]; rfl) (E h)
  · cases h


theorem aop_alloc {elem : TypeId} (ho : o.op = .alloc elem) (h : aop pol cx P env st o = some (v, st', tch)) : OpOk P ρ Res T st st' w (execOp a.eval o) v tch := by
  have E : ∀ {x : Operand} {v : AVal}, aev pol env x = some v → Fit ρ (Rs ρ st.heap Res) T w v (a.eval x) := fun h => aev_ok he hgl h
  simp only [aop, ho] at h
  simp only [execOp, ho]
  split at h
  · rename_i d z hd hz
    cases hc : z.cellsOf.all AVal.one with
    | false => rw [hc] at h; cases h
    | true =>
      rw [hc] at h
      simp only [cond_true, Option.some.injEq, Prod.mk.injEq] at h
      obtain ⟨rfl, rfl, rfl⟩ := h
      exact .loud (alloc_ok hg _ _ hz _)
  · cases h


theorem aop_box {elem : TypeId} {x : Operand} (ho : o.op = .box elem x) (h : aop pol cx P env st o = some (v, st', tch)) : OpOk P ρ Res T st st' w (execOp a.eval o) v tch := by
  have E : ∀ {x : Operand} {v : AVal}, aev pol env x = some v → Fit ρ (Rs ρ st.heap Res) T w v (a.eval x) := fun h => aev_ok he hgl h
  simp only [aop, ho] at h
  simp only [execOp, ho]
  split at h
  · rename_i d v' hd hv
    cases hc : v'.cellsOf.all AVal.one with
    | false => rw [hc] at h; cases h
    | true =>
      rw [hc] at h
      simp only [cond_true, Option.some.injEq, Prod.mk.injEq] at h
      obtain ⟨rfl, rfl, rfl⟩ := h
      exact .loud (box_ok hg _ _ (E hv))
  · cases h


theorem aop_build {t : TypeId} {parts : Array (Nat × Operand)} (ho : o.op = .build t parts) (h : aop pol cx P env st o = some (v, st', tch)) : OpOk P ρ Res T st st' w (execOp a.eval o) v tch := by
  have E : ∀ {x : Operand} {v : AVal}, aev pol env x = some v → Fit ρ (Rs ρ st.heap Res) T w v (a.eval x) := fun h => aev_ok he hgl h
  simp only [aop, ho] at h
  simp only [execOp, ho]
  split at h
  · rename_i ps hp
    replace h := quietR_some h; obtain ⟨h, rfl, rfl⟩ := h
    obtain ⟨z, h1, h2⟩ := abuild_ok (xs := parts.map fun (i, x) => (i, a.eval x)) h (by simpa using evParts_ok he hgl hp)
    exact .quiet hg (run_v (h1 w)) h2
  · cases h


theorem aop_buildSlice {t : TypeId} {len : Nat} {parts : Array (Nat × Operand)} (ho : o.op = .buildSlice t len parts) (h : aop pol cx P env st o = some (v, st', tch)) : OpOk P ρ Res T st st' w (execOp a.eval o) v tch := by
  have E : ∀ {x : Operand} {v : AVal}, aev pol env x = some v → Fit ρ (Rs ρ st.heap Res) T w v (a.eval x) := fun h => aev_ok he hgl h
  simp only [aop, ho] at h
  simp only [execOp, ho]
  split at h
  · rename_i d ps hd hp
    replace h := loudR_some h; obtain ⟨h, rfl⟩ := h
    have hp' : FitParts ρ (Rs ρ st.heap Res) T w ps (parts.map fun (i, x) => (i, a.eval x)).toList := by simpa using evParts_ok he hgl hp
    have := buildSlice_ok hg h hp'
    exact OpOk.loud this
  · cases h


theorem aop_load {t : TypeId} {x : Operand} (ho : o.op = .load t x) (h : aop pol cx P env st o = some (v, st', tch)) : OpOk P ρ Res T st st' w (execOp a.eval o) v tch := by
  have E : ∀ {x : Operand} {v : AVal}, aev pol env x = some v → Fit ρ (Rs ρ st.heap Res) T w v (a.eval x) := fun h => aev_ok he hgl h
  simp only [aop, ho] at h
  simp only [execOp, ho]
  split at h
  · rename_i p hp
    replace h := quietR_some h; obtain ⟨h, rfl, rfl⟩ := h
    obtain ⟨ad, y, h1, h2, h3⟩ := aload_ok hg h (E hp)
    exact .quiet hg (run_v (by simp only [Instr.loadAt, h1, Sem.run_bind, Instr.sureAddr, Sem.run_pure, Result.andThen_ok, h2])) h3
  · cases h


theorem aop_store {t : TypeId} {x y : Operand} (ho : o.op = .store t x y) (h : aop pol cx P env st o = some (v, st', tch)) : OpOk P ρ Res T st st' w (execOp a.eval o) v tch := by
  have E : ∀ {x : Operand} {v : AVal}, aev pol env x = some v → Fit ρ (Rs ρ st.heap Res) T w v (a.eval x) := fun h => aev_ok he hgl h
  simp only [aop, ho] at h
  simp only [execOp, ho]
  split at h
  · rename_i p v' hp hv
    replace h := storeR_some h; obtain ⟨h, rfl, rfl⟩ := h
    exact .stored (astore_ok hg h (E hp) (E hv))
  · cases h


theorem aop_nilCheck {x : Operand} (ho : o.op = .nilCheck x) (h : aop pol cx P env st o = some (v, st', tch)) : OpOk P ρ Res T st st' w (execOp a.eval o) v tch := by
  have E : ∀ {x : Operand} {v : AVal}, aev pol env x = some v → Fit ρ (Rs ρ st.heap Res) T w v (a.eval x) := fun h => aev_ok he hgl h
  simp only [aop, ho] at h
  simp only [execOp, ho]
  cases hx : aev pol env x with
  | none => rw [hx] at h; simp [quietR] at h
  | some p =>
    rw [hx] at h
    have hp := E hx
    generalize a.eval x = X at hp
    cases hp with
    | nilptr => cases h
    | nilif => cases h
    | nilfunc => cases h
    | func fn fs cs f c h1 h2 h3 h4 =>
      cases fn <;> simp only [reduceCtorEq] at h <;> (replace h := quietR_some h; obtain ⟨h, rfl, rfl⟩ := h; cases h; exact .quiet hg (by simp only [Sem.run_pure]) (.func _ _ _ _ _ h1 h2 h3 h4))
    | fsl tn cx len cells A cap vs h1 h2 h3 h4 h5 h6 =>
      simp only at h; replace h := quietR_some h; obtain ⟨h, rfl, rfl⟩ := h; cases h
      exact .quiet hg (by simp only [Sem.run_pure]) (.fsl tn cx len cells A cap vs h1 h2 h3 h4 h5 h6)
    | _ => simp only at h; replace h := quietR_some h; obtain ⟨h, rfl, rfl⟩ := h; cases h; exact .quiet hg (by simp only [Sem.run_pure]; rfl) (by first | (constructor <;> assumption) | (constructor))


theorem aop_binOp {op : BinOp} {t : TypeId} {x y : Operand} {q : _} (ho : o.op = .binOp op t x y q) (h : aop pol cx P env st o = some (v, st', tch)) : OpOk P ρ Res T st st' w (execOp a.eval o) v tch := by
  have E : ∀ {x : Operand} {v : AVal}, aev pol env x = some v → Fit ρ (Rs ρ st.heap Res) T w v (a.eval x) := fun h => aev_ok he hgl h
  simp only [aop, ho] at h
  simp only [execOp, ho]
  split at h
  · rename_i p v' hp hv
    replace h := quietR_some h; obtain ⟨h, rfl, rfl⟩ := h
    obtain ⟨z, h0, h1, h2⟩ := abin_ok (fun u e => by subst e; rfl) h (E hp) (E hv)
    exact .quiet hg (run_v (by simp only [Sem.run_bind, h0, Result.andThen_ok, h1])) h2
  · cases h


theorem aop_unOp {op : UnOp} {t : TypeId} {x : Operand} (ho : o.op = .unOp op t x) (h : aop pol cx P env st o = some (v, st', tch)) : OpOk P ρ Res T st st' w (execOp a.eval o) v tch := by
  have E : ∀ {x : Operand} {v : AVal}, aev pol env x = some v → Fit ρ (Rs ρ st.heap Res) T w v (a.eval x) := fun h => aev_ok he hgl h
  simp only [aop, ho] at h
  simp only [execOp, ho]
  split at h
  · rename_i p hp
    replace h := quietR_some h; obtain ⟨h, rfl, rfl⟩ := h
    obtain ⟨z, h1, h2⟩ := aun_ok h (E hp)
    exact .quiet hg (run_v (h1 w)) h2
  · cases h


theorem aop_convert {s t : TypeId} {x : Operand} (ho : o.op = .convert s t x) (h : aop pol cx P env st o = some (v, st', tch)) : OpOk P ρ Res T st st' w (execOp a.eval o) v tch := by
  have E : ∀ {x : Operand} {v : AVal}, aev pol env x = some v → Fit ρ (Rs ρ st.heap Res) T w v (a.eval x) := fun h => aev_ok he hgl h
  simp only [aop, ho] at h
  simp only [execOp, ho]
  split at h
  · rename_i p hp
    obtain ⟨rfl, z, h1, h2⟩ := aconvert_ok hg h (E hp)
    exact .quiet hg (run_v h1) h2
  · cases h


theorem aop_makeInterface {t : TypeId} {x : Operand} (ho : o.op = .makeInterface t x) (h : aop pol cx P env st o = some (v, st', tch)) : OpOk P ρ Res T st st' w (execOp a.eval o) v tch := by
  have E : ∀ {x : Operand} {v : AVal}, aev pol env x = some v → Fit ρ (Rs ρ st.heap Res) T w v (a.eval x) := fun h => aev_ok he hgl h
  simp only [aop, ho] at h
  simp only [execOp, ho]
  split at h
  · cases h
  · rename_i p d hd hp hn
    simp only [Option.some.injEq, Prod.mk.injEq] at h
    obtain ⟨rfl, rfl, rfl⟩ := h
    refine .quiet hg (run_v (x := .iface t (a.eval x)) ?_) (.iface _ _ _ (E (by assumption)))
    simp only [Instr.makeInterface, Sem.run_bind, run_underlying hn, Result.andThen_ok]
    cases d <;> first | rfl | (exact absurd rfl (hd _ _ hp)) | simp_all
  · cases h


theorem aop_makeFunc {fn : Fn} {fs cs : Array Operand} (ho : o.op = .makeFunc fn fs cs) (h : aop pol cx P env st o = some (v, st', tch)) : OpOk P ρ Res T st st' w (execOp a.eval o) v tch := by
  have E : ∀ {x : Operand} {v : AVal}, aev pol env x = some v → Fit ρ (Rs ρ st.heap Res) T w v (a.eval x) := fun h => aev_ok he hgl h
  simp only [aop, ho] at h
  simp only [execOp, ho]
  split at h
  · rename_i f c hf hc
    simp only [Option.some.injEq, Prod.mk.injEq] at h
    obtain ⟨rfl, rfl, rfl⟩ := h
    obtain ⟨h1, h2⟩ := evL_ok he hgl hf
    obtain ⟨h3, h4⟩ := evL_ok he hgl hc
    refine .quiet hg (run_v (x := .func fn (fs.map a.eval) (cs.map a.eval)) (by simp [Instr.makeFunc])) (.func _ _ _ _ _ (by simpa using h1) (by simpa using h3) (fun j hj => ?_) (fun j hj => ?_))
    · have := h2 j hj
      simpa [Array.getD_eq_getD_getElem?, List.getD_eq_getElem?_getD] using this
    · have := h4 j hj
      simpa [Array.getD_eq_getD_getElem?, List.getD_eq_getElem?_getD] using this
  · cases h


theorem aop_makeMap {t : TypeId} {r : Option Operand} (ho : o.op = .makeMap t r) (h : aop pol cx P env st o = some (v, st', tch)) : OpOk P ρ Res T st st' w (execOp a.eval o) v tch := by
  have E : ∀ {x : Operand} {v : AVal}, aev pol env x = some v → Fit ρ (Rs ρ st.heap Res) T w v (a.eval x) := fun h => aev_ok he hgl h
  simp only [aop, ho] at h
  simp only [execOp, ho]
  split at h
  · rename_i d hd hr
    rcases evO_ok he hgl hr with ⟨rfl, _⟩ | ⟨y, u, _, hu, _⟩
    · generalize hri : rowId pol cx d st = q at h
      obtain ⟨b, st1⟩ := q
      simp only [Option.some.injEq, Prod.mk.injEq] at h
      obtain ⟨rfl, rfl, rfl⟩ := h
      obtain ⟨e1, e2⟩ := rowId_ok hri
      obtain ⟨w', rfl, h1, h2, h3⟩ := newMap_ok (hg.congr e1 e2) b
      refine ⟨_, .map (some w.heap.size), _, _, run_v (w' := { w with heap := w.heap.push (.map #[] 0) }) (by simp [Instr.makeMap, newObj, Sem.run]), .inl rfl, ?_, h2.congr_left e1 e2, h3, fun h => by cases h⟩
      rw [e1] at h1 ⊢
      exact h1
    · cases hu
  · rename_i d k n hd hr
    rcases evO_ok he hgl hr with ⟨_, hu⟩ | ⟨y, u, rfl, hu, hf⟩
    · cases hu
    · cases hu
      split at h
      · rename_i kt et ht
        generalize hri : rowId pol cx d st = q at h
        obtain ⟨b, st1⟩ := q
        simp only [Option.some.injEq, Prod.mk.injEq] at h
        obtain ⟨rfl, rfl, rfl⟩ := h
        obtain ⟨e1, e2⟩ := rowId_ok hri
        obtain ⟨w', rfl, h1, h2, h3⟩ := newMap_ok (hg.congr e1 e2) b
        generalize hY : a.eval y = Y at hf
        cases hf
        refine ⟨_, .map (some w.heap.size), _, _, run_v (w' := { w with heap := w.heap.push (.map #[] 0) }) (by simp only [Instr.makeMap, Option.map_some, Sem.run_bind, run_underlying ht, Result.andThen_ok]; simp [hY, asInt, asIntOf, newObj, Sem.run]), .inl rfl, ?_, h2.congr_left e1 e2, h3, fun h => by cases h⟩
        rw [e1] at h1 ⊢
        exact h1
      · cases h
  · cases h

theorem aop_makeSlice {t : TypeId} {l c : Operand} (ho : o.op = .makeSlice t l c) (h : aop pol cx P env st o = some (v, st', tch)) : OpOk P ρ Res T st st' w (execOp a.eval o) v tch := by
  have E : ∀ {x : Operand} {v : AVal}, aev pol env x = some v → Fit ρ (Rs ρ st.heap Res) T w v (a.eval x) := fun h => aev_ok he hgl h
  simp only [aop, ho] at h
  simp only [execOp, ho]
  split at h
  · rename_i d l' c' hd hl hc
    replace h := loudR_some h; obtain ⟨h, rfl⟩ := h
    have := makeSlice_ok hg h (E hl) (E hc)
    exact OpOk.loud this
  · cases h


omit hg in
theorem evO_fit {x : Option Operand} {u : Option AVal} (h : evO pol env x = some u) : FitO ρ (Rs ρ st.heap Res) T w u (x.map a.eval) := by
  rcases evO_ok he hgl h with ⟨rfl, rfl⟩ | ⟨y, u, rfl, rfl, hf⟩
  · exact .none
  · exact .some hf

theorem aop_slice {t : TypeId} {x : Operand} {lo hi mx : Option Operand} (ho : o.op = .slice t x lo hi mx) (h : aop pol cx P env st o = some (v, st', tch)) : OpOk P ρ Res T st st' w (execOp a.eval o) v tch := by
  have E : ∀ {x : Operand} {v : AVal}, aev pol env x = some v → Fit ρ (Rs ρ st.heap Res) T w v (a.eval x) := fun h => aev_ok he hgl h
  simp only [aop, ho] at h
  simp only [execOp, ho]
  split at h
  · rename_i p l' h' m' hp hl hh hm
    replace h := quietR_some h; obtain ⟨h, rfl, rfl⟩ := h
    obtain ⟨z, h1, h2⟩ := aslice_ok hg h (E hp) (evO_fit he hgl hl) (evO_fit he hgl hh) (evO_fit he hgl hm)
    exact .quiet hg (run_v (h1 w)) h2
  · cases h


theorem aop_fieldAddr {t : TypeId} {x : Operand} {f : Nat} (ho : o.op = .fieldAddr t x f) (h : aop pol cx P env st o = some (v, st', tch)) : OpOk P ρ Res T st st' w (execOp a.eval o) v tch := by
  have E : ∀ {x : Operand} {v : AVal}, aev pol env x = some v → Fit ρ (Rs ρ st.heap Res) T w v (a.eval x) := fun h => aev_ok he hgl h
  simp only [aop, ho] at h
  simp only [execOp, ho]
  split at h
  · rename_i p hp
    replace h := quietR_some h; obtain ⟨h, rfl, rfl⟩ := h
    obtain ⟨ad, fields, fd, a', h1, h2, h3, h4, h5⟩ := afieldAddr_ok h (E hp)
    refine .quiet hg (run_v (x := .pointer (some a')) ?_) h5
    simp only [Instr.fieldAt, Sem.run_bind, run_underlying h2, Result.andThen_ok, h3, h1, Instr.sureAddr, Sem.run_pure, h4]
  · cases h


theorem aop_field {t : TypeId} {x : Operand} {f : Nat} (ho : o.op = .field t x f) (h : aop pol cx P env st o = some (v, st', tch)) : OpOk P ρ Res T st st' w (execOp a.eval o) v tch := by
  have E : ∀ {x : Operand} {v : AVal}, aev pol env x = some v → Fit ρ (Rs ρ st.heap Res) T w v (a.eval x) := fun h => aev_ok he hgl h
  simp only [aop, ho] at h
  simp only [execOp, ho]
  split at h
  · rename_i p hp
    replace h := quietR_some h; obtain ⟨h, rfl, rfl⟩ := h
    obtain ⟨z, h1, h2⟩ := afield_ok h (E hp)
    exact .quiet hg (run_v h1) h2
  · cases h


theorem aop_indexAddr {t : TypeId} {x y : Operand} (ho : o.op = .indexAddr t x y) (h : aop pol cx P env st o = some (v, st', tch)) : OpOk P ρ Res T st st' w (execOp a.eval o) v tch := by
  have E : ∀ {x : Operand} {v : AVal}, aev pol env x = some v → Fit ρ (Rs ρ st.heap Res) T w v (a.eval x) := fun h => aev_ok he hgl h
  simp only [aop, ho] at h
  simp only [execOp, ho]
  split at h
  · rename_i p i hp hi
    replace h := quietR_some h; obtain ⟨h, rfl, rfl⟩ := h
    obtain ⟨z, h1, h2⟩ := aindexAddr_ok h (E hp) (E hi)
    exact .quiet hg (run_v (h1 w)) h2
  · cases h


theorem aop_index {t : TypeId} {x y : Operand} (ho : o.op = .index t x y) (h : aop pol cx P env st o = some (v, st', tch)) : OpOk P ρ Res T st st' w (execOp a.eval o) v tch := by
  have E : ∀ {x : Operand} {v : AVal}, aev pol env x = some v → Fit ρ (Rs ρ st.heap Res) T w v (a.eval x) := fun h => aev_ok he hgl h
  simp only [aop, ho] at h
  simp only [execOp, ho]
  split at h
  · rename_i p i hp hi
    replace h := quietR_some h; obtain ⟨h, rfl, rfl⟩ := h
    obtain ⟨z, h1, h2⟩ := aindex_ok h (E hp) (E hi)
    exact .quiet hg (run_v (h1 w)) h2
  · cases h


theorem aop_lookup {t : TypeId} {x y : Operand} {ok : Bool} (ho : o.op = .lookup t x y ok) (h : aop pol cx P env st o = some (v, st', tch)) : OpOk P ρ Res T st st' w (execOp a.eval o) v tch := by
  have E : ∀ {x : Operand} {v : AVal}, aev pol env x = some v → Fit ρ (Rs ρ st.heap Res) T w v (a.eval x) := fun h => aev_ok he hgl h
  simp only [aop, ho] at h
  simp only [execOp, ho]
  split at h
  · rename_i p i hp hi
    replace h := quietR_some h; obtain ⟨h, rfl, rfl⟩ := h
    obtain ⟨z, h1, h2⟩ := alookup_ok hg h (E hp) (E hi)
    exact .quiet hg (run_v h1) h2
  · cases h


theorem aop_mapUpdate {t : TypeId} {x y z : Operand} (ho : o.op = .mapUpdate t x y z) (h : aop pol cx P env st o = some (v, st', tch)) : OpOk P ρ Res T st st' w (execOp a.eval o) v tch := by
  have E : ∀ {x : Operand} {v : AVal}, aev pol env x = some v → Fit ρ (Rs ρ st.heap Res) T w v (a.eval x) := fun h => aev_ok he hgl h
  simp only [aop, ho] at h
  simp only [execOp, ho]
  split at h
  · rename_i m k v' hm hk hv
    replace h := storeR_some h; obtain ⟨h, rfl, rfl⟩ := h
    exact .stored (amapUpdate_ok hg h (E hm) (E hk) (E hv))
  · cases h


theorem aop_insert {t : TypeId} {x y z : Operand} (ho : o.op = .insert t x y z) (h : aop pol cx P env st o = some (v, st', tch)) : OpOk P ρ Res T st st' w (execOp a.eval o) v tch := by
  have E : ∀ {x : Operand} {v : AVal}, aev pol env x = some v → Fit ρ (Rs ρ st.heap Res) T w v (a.eval x) := fun h => aev_ok he hgl h
  simp only [aop, ho] at h
  simp only [execOp, ho]
  split at h
  · rename_i m k v' hm hk hv
    replace h := storeR_some h; obtain ⟨h, rfl, rfl⟩ := h
    exact .stored (amapUpdate_ok hg h (E hm) (E hk) (E hv))
  · cases h


theorem aop_range {t : TypeId} {x : Operand} (ho : o.op = .range t x) (h : aop pol cx P env st o = some (v, st', tch)) : OpOk P ρ Res T st st' w (execOp a.eval o) v tch := by
  have E : ∀ {x : Operand} {v : AVal}, aev pol env x = some v → Fit ρ (Rs ρ st.heap Res) T w v (a.eval x) := fun h => aev_ok he hgl h
  simp only [aop, ho] at h
  simp only [execOp, ho]
  split at h
  · rename_i d s hd hx ht
    generalize hri : rowId pol cx d st = q at h
    obtain ⟨b, st1⟩ := q
    simp only [Option.some.injEq, Prod.mk.injEq] at h
    obtain ⟨rfl, rfl, rfl⟩ := h
    obtain ⟨e1, e2⟩ := rowId_ok hri
    have hp := E hx
    generalize a.eval x = X at hp
    cases hp with
    | str s =>
      obtain ⟨w', rfl, h1, h2, h3⟩ := newIter_ok (hg.congr e1 e2) b s
      refine ⟨_, .pointer (some ⟨w.heap.size, 0, none⟩), _, _, run_v (w' := { w with heap := w.heap.push (.stringIter s 0) }) ?_, .inl rfl, ?_, h2.congr_left e1 e2, h3, fun h => by cases h⟩
      · simp only [Instr.range, Sem.run_bind, run_underlying ht, Result.andThen_ok, Sem.run_pure]
        simp [newObj, Sem.run]
      · rw [e1] at h1 ⊢
        exact h1
  · cases h


theorem aop_next {x : Operand} {s : Bool} (ho : o.op = .next x s) (h : aop pol cx P env st o = some (v, st', tch)) : OpOk P ρ Res T st st' w (execOp a.eval o) v tch := by
  have E : ∀ {x : Operand} {v : AVal}, aev pol env x = some v → Fit ρ (Rs ρ st.heap Res) T w v (a.eval x) := fun h => aev_ok he hgl h
  simp only [aop, ho] at h
  simp only [execOp, ho]
  split at h
  · rename_i p hp
    cases s with
    | false => cases h
    | true =>
      rw [cond_true] at h
      replace h := loudR_some h; obtain ⟨h, rfl⟩ := h
      have := anext_ok (P := P) (ty := o.type) hg h (E hp)
      exact OpOk.loud this
  · cases h


theorem aop_typeAssert {x : Operand} {s t : TypeId} {ok : Bool} (ho : o.op = .typeAssert x s t ok) (h : aop pol cx P env st o = some (v, st', tch)) : OpOk P ρ Res T st st' w (execOp a.eval o) v tch := by
  have E : ∀ {x : Operand} {v : AVal}, aev pol env x = some v → Fit ρ (Rs ρ st.heap Res) T w v (a.eval x) := fun h => aev_ok he hgl h
  simp only [aop, ho] at h
  simp only [execOp, ho]
  split at h
  · rename_i p hp
    replace h := quietR_some h; obtain ⟨h, rfl, rfl⟩ := h
    obtain ⟨z, h1, h2⟩ := atypeAssert_ok (xt := s) h (E hp)
    exact .quiet hg (run_v h1) h2
  · cases h


theorem aop_extract {x : Operand} {i : Nat} (ho : o.op = .extract x i) (h : aop pol cx P env st o = some (v, st', tch)) : OpOk P ρ Res T st st' w (execOp a.eval o) v tch := by
  have E : ∀ {x : Operand} {v : AVal}, aev pol env x = some v → Fit ρ (Rs ρ st.heap Res) T w v (a.eval x) := fun h => aev_ok he hgl h
  simp only [aop, ho] at h
  simp only [execOp, ho]
  split at h
  · rename_i p hp
    replace h := quietR_some h; obtain ⟨h, rfl, rfl⟩ := h
    obtain ⟨z, h1, h2⟩ := extract_ok (P := P) h (E hp)
    exact .quiet hg (run_v (h1 w)) h2
  · cases h



theorem aop_call {c : Call} (ho : o.op = .call c) (h : aop pol cx P env st o = some (v, st', tch)) : OpOk P ρ Res T st st' w (execOp a.eval o) v tch := by
  simp only [aop, ho] at h
  split at h
  · rename_i b hb
    split at h
    · rename_i args ha
      exact aop_builtin hg (evL_ok he hgl ha) ho hb h
    · cases h
  · cases h

theorem aop_ok (h : aop pol cx P env st o = some (v, st', tch)) : OpOk P ρ Res T st st' w (execOp a.eval o) v tch := by
  cases ho : o.op with
  | move x => exact aop_move hg he hgl ho h
  | assign x => exact aop_assign hg he hgl ho h
  | pick c x y => exact aop_pick hg he hgl ho h
  | alloc t => exact aop_alloc hg he hgl ho h
  | box t x => exact aop_box hg he hgl ho h
  | build t x => exact aop_build hg he hgl ho h
  | buildSlice t l x => exact aop_buildSlice hg he hgl ho h
  | load t x => exact aop_load hg he hgl ho h
  | store t x y => exact aop_store hg he hgl ho h
  | nilCheck x => exact aop_nilCheck hg he hgl ho h
  | binOp op t x y q => exact aop_binOp hg he hgl ho h
  | unOp op t x => exact aop_unOp hg he hgl ho h
  | convert s t x => exact aop_convert hg he hgl ho h
  | makeInterface t x => exact aop_makeInterface hg he hgl ho h
  | makeFunc f x y => exact aop_makeFunc hg he hgl ho h
  | makeMap t x => exact aop_makeMap hg he hgl ho h
  | makeSlice t x y => exact aop_makeSlice hg he hgl ho h
  | slice t x l h' m => exact aop_slice hg he hgl ho h
  | fieldAddr s x f => exact aop_fieldAddr hg he hgl ho h
  | field s x f => exact aop_field hg he hgl ho h
  | indexAddr s x f => exact aop_indexAddr hg he hgl ho h
  | index s x f => exact aop_index hg he hgl ho h
  | lookup s x f b => exact aop_lookup hg he hgl ho h
  | mapUpdate s x f b => exact aop_mapUpdate hg he hgl ho h
  | insert s x f b => exact aop_insert hg he hgl ho h
  | range s x => exact aop_range hg he hgl ho h
  | next x s => exact aop_next hg he hgl ho h
  | typeAssert x s t ok => exact aop_typeAssert hg he hgl ho h
  | extract x i => exact aop_extract hg he hgl ho h
  | call c => exact aop_call hg he hgl ho h
  | _ => simp only [aop, ho, reduceCtorEq] at h
end
end Go.Ax
