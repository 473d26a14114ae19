/- What is asked of the runs of codes and calls; calls as operations; rounds. -/
import Derived.Test.YtlpeajiemppicaaGreatDoorPnAyC
namespace Go.Ax
set_option linter.unusedVariables false
set_option linter.unusedSimpArgs false
variable {P : Program} {pol : Pol} {ρ : Loc} {R T : Nat → Prop} {w : World}

abbrev Fr (r : Option Nat) : Fence := { Fence.wide with round := r }

def FenceOk (ρ : Loc) (cx : Cx) (r : Option Nat) : Prop :=
  match cx.round with
  | none => r = none
  | some (_, inc) => ∃ g, ρ inc inc = some g ∧ r = some g

theorem FenceOk.ext {ρ ρ' : Loc} {cx : Cx} {r : Option Nat} (h : FenceOk ρ cx r) (hext : ∀ i v g, ρ i v = some g → ρ' i v = some g) : FenceOk ρ' cx r := by
  unfold FenceOk at *
  cases hc : cx.round with
  | none => rw [hc] at h; exact h
  | some p => rw [hc] at h; obtain ⟨g, h1, h2⟩ := h; exact ⟨g, hext _ _ _ h1, h2⟩

def mark (r : Nat) : Deferred := { target := .collected r, args := #[] }

/-- The blocks of the marks: still empty, laid since w, no one's. -/
def MarksOk (ρ' : Loc) (st' : St) (w w' : World) (rs : List Nat) : Prop :=
  rs.Nodup ∧ ∀ r ∈ rs, w.heap.size ≤ r ∧ w'.heap[r]? = some (.deferred (some [])) ∧ ¬ Own ρ' st'.heap r

def exitOf : Out → Option Exit
  | .norm => some .normal
  | .exit id => some (.exit id)
  | .goto l => some (.goto l)
  | .ret => some .ret
  | .val _ => none

def CodeR (cx : Cx) (ρ : Loc) (Res T : Nat → Prop) (st : St) (w : World) (a : Act) (out : Out) (env' : Env) (st' : St) (e : Exit) (a' : Act) (w' : World) : Prop :=
  exitOf out = some e ∧ ∃ ρ' rs, EnvOk ρ' (Rs ρ' st'.heap Res) T w' env' a'.tmps ∧ a'.tmps.size = cx.nt ∧ Ev ρ ρ' st st' w w' ∧ Good ρ' Res T st' w' ∧ a'.defers = rs.map mark ++ a.defers ∧ MarksOk ρ' st' w w' rs

theorem GlobOk.ev {ρ ρ' : Loc} {Res T : Nat → Prop} {st st' : St} {w w' : World} (h : GlobOk pol ρ (Rs ρ st.heap Res) T w) (e : Ev ρ ρ' st st' w w') (hres : ∀ g, Res g → g < w.heap.size) :
    GlobOk pol ρ' (Rs ρ' st'.heap Res) T w' := fun g cells hc => (h g cells hc).ev e hres

theorem MarksOk.later {ρ ρ' : Loc} {st st' : St} {w0 w w' : World} {rs : List Nat} (h : MarksOk ρ st w0 w rs) (e : Ev ρ ρ' st st' w w') : MarksOk ρ' st' w0 w' rs :=
  ⟨h.1, fun r hr => by
    obtain ⟨h1, h2, h3⟩ := h.2 r hr
    have hlt : r < w.heap.size := (Array.getElem?_eq_some_iff.1 h2).1
    refine ⟨h1, by rw [e.frame r hlt h3]; exact h2, fun ho => ?_⟩
    rcases e.new r ho with h4 | h4
    · exact h3 h4
    · omega⟩

theorem MarksOk.append {ρ' : Loc} {st' : St} {w0 w w' : World} {rs rs' : List Nat} (h : MarksOk ρ' st' w0 w' rs) (h' : MarksOk ρ' st' w w' rs') (hb : ∀ r ∈ rs, r < w.heap.size) (hsz : w0.heap.size ≤ w.heap.size) : MarksOk ρ' st' w0 w' (rs' ++ rs) := by
  refine ⟨List.nodup_append.2 ⟨h'.1, h.1, fun a ha b hb' e => ?_⟩, fun r hr => ?_⟩
  · subst e
    have := (h'.2 a ha).1
    have := hb a hb'
    omega
  · rcases List.mem_append.1 hr with hr | hr
    · obtain ⟨h1, h2, h3⟩ := h'.2 r hr
      exact ⟨by omega, h2, h3⟩
    · exact h.2 r hr

theorem MarksOk.nil (ρ' : Loc) (st' : St) (w w' : World) : MarksOk ρ' st' w w' [] := ⟨List.nodup_nil, fun r h => by cases h⟩

theorem CodeR.trans {cx : Cx} {ρ1 : Loc} {Res T : Nat → Prop} {st st1 st2 : St} {w w1 w2 : World} {a a1 a2 : Act} {out : Out} {env2 : Env} {e : Exit} {rs : List Nat}
    (ev1 : Ev ρ ρ1 st st1 w w1) (hd : a1.defers = rs.map mark ++ a.defers) (hm : MarksOk ρ1 st1 w w1 rs) (h : CodeR cx ρ1 Res T st1 w1 a1 out env2 st2 e a2 w2) : CodeR cx ρ Res T st w a out env2 st2 e a2 w2 := by
  obtain ⟨he, ρ2, rs2, h1, h2, h3, h4, h5, h6⟩ := h
  have hb : ∀ r ∈ rs, r < w1.heap.size := fun r hr => (Array.getElem?_eq_some_iff.1 (hm.2 r hr).2.1).1
  exact ⟨he, ρ2, rs2 ++ rs, h1, h2, ev1.trans h3, h4, by rw [h5, hd]; simp, (hm.later h3).append h6 hb ev1.size⟩

theorem CodeR.done {cx : Cx} {Res : Nat → Prop} {st : St} {a : Act} {out : Out} {env : Env} {e : Exit} (he : exitOf out = some e) (hg : Good ρ Res T st w) (hev : EnvOk ρ (Rs ρ st.heap Res) T w env a.tmps) (hs : a.tmps.size = cx.nt) :
    CodeR cx ρ Res T st w a out env st e a w := ⟨he, ρ, [], hev, hs, Ev.refl .., hg, rfl, .nil ..⟩

def RecCode (P : Program) (pol : Pol) (rec : Task → Option Res) : Prop :=
  ∀ c cx env st out env' st', rec (.code c cx env st) = some ⟨out, env', st'⟩ → ∀ (ρ : Loc) (Res T : Nat → Prop) (w : World) (a : Act) (r : Option Nat), Good ρ Res T st w →
    GlobOk pol ρ (Rs ρ st.heap Res) T w → EnvOk ρ (Rs ρ st.heap Res) T w env a.tmps → a.tmps.size = cx.nt → FenceOk ρ cx r → c.wpIn (Fr r) 0 P (CodeR cx ρ Res T st w a out env' st') a w

/-! ### calls as operations -/
theorem run_ofCall {c : Call} {a : Act} {fn : Fn} {first captured : Array Value} {f : Operand} (hc : c.callee = .value f) (hf : a.eval f = .func fn first captured) (ty : TypeId) (w : World) :
    (do let d ← resolve a.eval c ty; invoke d.target d.args : Sem Next).run P w = (invoke (.fn fn captured) (first ++ c.args.map a.eval)).run P w := by
  simp only [resolve, hc, hf, Deferred.ofValue, Sem.run_bind, Sem.run_pure, Result.andThen_ok]

/-- Where an operation goes through to a value. -/
theorem wpIn_value {o : Oper} {a : Act} {r : Option Nat} {next : Act → World → Prop} {Q : Exit → Act → World → Prop} {x : Value} {nx : Next} {w' : World} (hd : ∀ c, o.op ≠ .defer c)
    (h : (execOp a.eval o).run P w = .ok nx w') (hx : nx = .value x ∨ (nx = .skip ∧ x = undef)) (hk : next (a.put o.dst x) w') : o.wpIn (Fr r) 0 P a w next Q := by
  refine ⟨fun _ _ => trivial, ?_⟩
  rw [Oper.semAt_eq _ _ _ hd, h]
  rcases hx with rfl | ⟨rfl, rfl⟩
  · exact hk
  · exact hk

theorem wpIn_enter {o : Oper} {a : Act} {r : Option Nat} {next : Act → World → Prop} {Q : Exit → Act → World → Prop} {f : FuncId} {args : Array Value} {S : Value → World → Prop} (hd : ∀ c, o.op ≠ .defer c)
    (h : (execOp a.eval o).run P w = .ok (.enter f args) w) (hc : CallsIn Fence.wide 0 P f args w (fun e w' => match e with | .returned x => S x w' | _ => False)) (hk : ∀ x w', S x w' → next (a.put o.dst x) w') : o.wpIn (Fr r) 0 P a w next Q := by
  refine ⟨fun _ _ => trivial, ?_⟩
  rw [Oper.semAt_eq _ _ _ hd, h, Oper.uponIn_enter]
  refine ⟨fun (h : (none : Option Nat).isSome = true) => by simp at h, ?_⟩
  have hc' : CallsIn (Fr r) (0 - 1) P f args w (fun e w' => match e with | .returned x => S x w' | _ => False) := hc
  exact hc'.mono fun e w' he => by
    cases e with
    | returned x => exact hk x w' he
    | panicked => exact he.elim
    | outgrown => exact he.elim

theorem wpIn_round {o : Oper} {a : Act} {r : Option Nat} {next : Act → World → Prop} {Q : Exit → Act → World → Prop} {l : Nat} {f : FuncId} {tmps : Array Value} {assign body : Code} {S : Value → World → Prop} (hd : ∀ c, o.op ≠ .defer c)
    (h : (execOp a.eval o).run P w = .ok (.round l f tmps assign body) w) (hc : RoundIn (Fr r) 0 P l f tmps assign body w (fun e w' => match e with | .returned x => S x w' | _ => False)) (hk : ∀ x w', S x w' → next (a.put o.dst x) w') : o.wpIn (Fr r) 0 P a w next Q := by
  refine ⟨fun _ _ => trivial, ?_⟩
  rw [Oper.semAt_eq _ _ _ hd, h, Oper.uponIn_round]
  refine ⟨fun (h : (none : Option Nat).isSome = true) => by simp at h, ?_⟩
  exact RoundIn.mono (show RoundIn (Fr r) (0 - 1) P l f tmps assign body w _ from hc) fun e w' he => by
    cases e with
    | returned x => exact hk x w' he
    | panicked => exact he.elim
    | outgrown => exact he.elim

theorem FitL.append {xs ys : List AVal} {vs us : List Value} (h : FitL ρ R T w xs vs) (k : FitL ρ R T w ys us) : FitL ρ R T w (xs ++ ys) (vs ++ us) := by
  refine ⟨by simp [h.1, k.1], fun j hj => ?_⟩
  rcases Nat.lt_or_ge j xs.length with h' | h'
  · have e : (vs ++ us).getD j undef = vs.getD j undef := by
      simp only [List.getD_eq_getElem?_getD]; rw [List.getElem?_append_left (by rw [h.1]; exact h')]
    rw [List.getElem_append_left h', e]
    exact h.2 j h'
  · have e : (vs ++ us).getD j undef = us.getD (j - xs.length) undef := by
      simp only [List.getD_eq_getElem?_getD]; rw [List.getElem?_append_right (by rw [h.1]; exact h'), h.1]
    rw [List.getElem_append_right h', e]
    exact k.2 (j - xs.length) (by simp at hj; omega)

theorem FitL.ofArray {xs : List AVal} {c : Array Value} (h1 : c.size = xs.length) (h2 : ∀ j (h : j < xs.length), Fit ρ R T w xs[j] (c.getD j undef)) : FitL ρ R T w xs c.toList :=
  ⟨by simpa using h1, fun j hj => by
    have := h2 j hj
    simpa [Array.getD_eq_getD_getElem?, List.getD_eq_getElem?_getD] using this⟩

/-! ### environments -/
theorem setParams_ok : ∀ {ts : List Tmp} {vs : List AVal} {xs : List Value} {env : Env} {tmps : Array Value}, FitL ρ R T w vs xs → vs.length = ts.length → (∀ t ∈ ts, t < tmps.size) → EnvOk ρ R T w env tmps →
    EnvOk ρ R T w (setParams ts vs env) ((ts.zip xs).foldl (fun tmps p => tmps.setIfInBounds p.1 p.2) tmps) ∧ ((ts.zip xs).foldl (fun tmps p => tmps.setIfInBounds p.1 p.2) tmps).size = tmps.size
  | [], [], xs, env, tmps, _, _, _, he => ⟨by simpa [setParams] using he, by simp⟩
  | t :: ts, v :: vs, xs, env, tmps, hf, hl, ht, he => by
    match xs, hf with
    | x :: xs, hf =>
      simp only [setParams, List.zip_cons_cons, List.foldl_cons]
      have h0 : Fit ρ R T w v x := hf.2 0 (by simp)
      have hr : FitL ρ R T w vs xs := ⟨by simpa using hf.1, fun j hj => by have := hf.2 (j + 1) (by simpa using hj); simpa using this⟩
      have := setParams_ok (env := up t v env) (tmps := tmps.setIfInBounds t x) hr (by simpa using hl) (fun u hu => by simpa using ht u (by simp [hu])) (fun k u hk => by
        rw [lk_up] at hk
        by_cases e : t = k
        · simp only [e, if_true, Option.some.injEq] at hk
          subst hk
          have hlt := ht t (by simp)
          rw [← e]
          simpa [Array.getD_eq_getD_getElem?, Array.getElem?_setIfInBounds, hlt] using h0
        · simp only [e, if_false] at hk
          have := he k u hk
          simpa [Array.getD_eq_getD_getElem?, Array.getElem?_setIfInBounds, e] using this)
      exact ⟨this.1, by rw [this.2]; simp⟩
  | t :: ts, [], xs, env, tmps, hf, hl, ht, he => by simp at hl
  | [], v :: vs, xs, env, tmps, hf, hl, ht, he => by simp at hl

end Go.Ax
