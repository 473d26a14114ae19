/- Regions in listing order; results; functions from their bodies; loops and scopes. -/
import Derived.Test.YtlpeajiemppicaaGreatDoorPnAyF
import Derived.TacticsIn
import Derived.Scope
namespace Go.Ax
set_option linter.unusedVariables false
set_option linter.unusedSimpArgs false
variable {P : Program} {pol : Pol} {ρ : Loc} {R T : Nat → Prop} {w : World}

theorem awanted_ok {ops : Array Oper} {env : Env} {o : Oper} {t : Bool} {tmps : Array Value} (h : awanted ops env o = some t) (he : EnvOk ρ R T w env tmps) : Region.wanted o (yielded ops tmps) = t := by
  unfold awanted at h
  unfold Region.wanted
  cases hg : o.guard with
  | none => rw [hg] at h; simp only [Option.some.injEq] at h; simpa using h
  | some p =>
    obtain ⟨j, want⟩ := p
    rw [hg] at h
    simp only at h ⊢
    unfold yielded
    cases hd : (ops[j]?).bind (·.dst) with
    | none => simp only [hd, Option.some.injEq] at h; subst h; rfl
    | some d =>
      simp only [hd] at h
      simp only [Option.bind_some]
      cases hl : lk d env with
      | none => rw [hl] at h; cases h
      | some v =>
        rw [hl] at h
        have hv := he d v hl
        rw [Array.getD_eq_getD_getElem?] at hv
        cases v <;> try simp only [reduceCtorEq, Option.some.injEq] at h
        · rename_i b
          subst h
          cases ht : tmps[d]? with
          | none => rw [ht] at hv; cases hv
          | some x =>
            rw [ht] at hv
            simp only [Option.getD_some] at hv
            cases hv
            cases b <;> cases want <;> rfl
        · rename_i vs
          cases vs with
          | cons => simp at h
          | nil =>
            simp only [Option.some.injEq] at h
            subst h
            cases ht : tmps[d]? with
            | none => rfl
            | some x =>
              rw [ht] at hv
              simp only [Option.getD_some] at hv
              cases hv
              rfl

theorem aputE_ok {nt : Nat} {dst : Option Tmp} {v : AVal} {x : Value} {env env' : Env} {a : Act} (h : aput' nt dst v env = some env') (he : EnvOk ρ R T w env a.tmps) (hs : a.tmps.size = nt) (hf : Fit ρ R T w v x) :
    EnvOk ρ R T w env' (a.put dst x).tmps ∧ (a.put dst x).tmps.size = nt ∧ (a.put dst x).defers = a.defers := by
  cases dst with
  | none => simp only [aput', Option.some.injEq] at h; subst h; exact ⟨he, hs, rfl⟩
  | some d =>
    simp only [aput'] at h
    cases hb : Nat.blt d nt with
    | false => rw [hb] at h; cases h
    | true =>
      rw [hb] at h
      simp only [cond_true, Option.some.injEq] at h
      subst h
      have hlt : d < a.tmps.size := by rw [hs]; simpa using hb
      refine ⟨fun k u hk => ?_, by simp [Act.put, hs], rfl⟩
      rw [lk_up] at hk
      by_cases e : d = k
      · simp only [e, if_true, Option.some.injEq] at hk
        subst hk
        rw [← e]
        simpa [Act.put, Array.getD_eq_getD_getElem?, Array.getElem?_setIfInBounds, hlt] using hf
      · simp only [e, if_false] at hk
        have := he k u hk
        simpa [Act.put, Array.getD_eq_getD_getElem?, Array.getElem?_setIfInBounds, e] using this

theorem fit_undef : Fit ρ R T w .undef undef := .tuple [] #[] rfl (fun j h => by simp at h)

section
variable {rec : Task → Option Res} {cx : Cx} {Res : Nat → Prop} (hP : Sane pol P) (hr : RecCall P pol rec) (hc : RecCode P pol rec)
include hP hr hc

theorem aops_ok {ops : Array Oper} (r : Option Nat) {env' : Env} {st' : St} {Q : Exit → Act → World → Prop} : ∀ {l : List Oper} {env : Env} {st : St} {ρ : Loc} {w : World} {a : Act}, aops rec pol cx P ops l env st = some (env', st') →
    Good ρ Res T st w → GlobOk pol ρ (Rs ρ st.heap Res) T w → EnvOk ρ (Rs ρ st.heap Res) T w env a.tmps → a.tmps.size = cx.nt → (∀ e a' w', CodeR cx ρ Res T st w a .norm env' st' e a' w' → Q e a' w') → wpListIn (Fr r) 0 P ops Q l a w := by
  intro l
  induction l with
  | nil =>
    intro env st ρ w a h hg hgl he hs hQ
    simp only [aops, Option.some.injEq, Prod.mk.injEq] at h
    obtain ⟨rfl, rfl⟩ := h
    exact hQ _ _ _ (CodeR.done rfl hg he hs)
  | cons o l ih =>
    intro env st ρ w a h hg hgl he hs hQ
    simp only [aops] at h
    cases hw : awanted ops env o with
    | none => rw [hw] at h; cases h
    | some t =>
      rw [hw] at h
      have hw' := awanted_ok hw he
      cases t with
      | false =>
        simp only at h
        cases hp : aput' cx.nt o.dst .undef env with
        | none => rw [hp] at h; cases h
        | some env1 =>
          rw [hp] at h
          obtain ⟨p1, p2, p3⟩ := aputE_ok hp he hs fit_undef
          simp only [wpListIn, hw', Bool.false_eq_true, if_false]
          exact ⟨fun _ _ => trivial, ih h hg hgl p1 p2 fun e a' w' hq => hQ _ _ _ (CodeR.trans (rs := []) (Ev.refl ..) (by simp [p3]) (.nil ..) hq)⟩
      | true =>
        simp only at h
        cases ho : aoper rec pol cx P env st o with
        | none => rw [ho] at h; cases h
        | some q =>
          obtain ⟨v, st1, tch⟩ := q
          rw [ho] at h
          simp only at h
          cases hp : aput' cx.nt o.dst v env with
          | none => rw [hp] at h; cases h
          | some env1 =>
            rw [hp] at h
            simp only [wpListIn, hw', if_true]
            refine (aoper_ok hP hr hc hg he hgl ho r (fun x w' ρ' _ k1 k2 k3 => ?_)).2
            obtain ⟨p1, p2, p3⟩ := aputE_ok hp (he.ev k2 hg.res) hs k1
            exact ih h k3 (hgl.ev k2 hg.res) p1 p2 fun e a' w' hq => hQ _ _ _ (CodeR.trans (rs := []) k2 (by simp [p3]) (.nil ..) hq)
end

/-! ### loops and scopes -/
theorem least (p : Nat → Prop) : ∀ n, p n → ∃ m, p m ∧ ∀ k, p k → m ≤ k := by
  intro n
  induction n using Nat.strongRecOn with
  | _ n ih =>
    intro hn
    by_cases h : ∃ k, k < n ∧ p k
    · obtain ⟨k, h1, h2⟩ := h; exact ih k h1 h2
    · exact ⟨n, hn, fun k hk => Nat.le_of_not_lt fun hlt => h ⟨k, hlt, hk⟩⟩

open Classical in
noncomputable def leastOf (p : Nat → Prop) : Nat := if h : ∃ n, p n then (least p h.choose h.choose_spec).choose else 0

theorem leastOf_spec {p : Nat → Prop} {n : Nat} (h : p n) : p (leastOf p) ∧ leastOf p ≤ n := by
  have hx : ∃ n, p n := ⟨n, h⟩
  unfold leastOf
  rw [dif_pos hx]
  have := (least p hx.choose hx.choose_spec).choose_spec
  exact ⟨this.1, this.2 n h⟩

theorem wpIn_loop_fuel {F : Fence} {m : Nat} {c : Code} {Q : Exit → Act → World → Prop} {a : Act} (J : Nat → Act → World → Prop) {n0 : Nat} (h0 : J n0 a w)
    (round : ∀ n a w, J n a w → c.wpIn F m P (Exit.then (fun a' w' => ∃ k, k < n ∧ J k a' w') Q) a w) : (Code.loop c).wpIn F m P Q a w := by
  refine wpIn_loop (fun a w => ∃ n, J n a w) (fun a w => leastOf fun n => J n a w) ⟨n0, h0⟩ ?_
  rintro a w ⟨n, hn⟩
  refine wpIn_mono (round _ a w (leastOf_spec (p := fun n => J n a w) hn).1) ?_
  intro e a' w' hq
  cases e with
  | normal =>
    obtain ⟨k, hk, hj⟩ := hq
    exact ⟨⟨k, hj⟩, Nat.lt_of_le_of_lt (leastOf_spec (p := fun n => J n a' w') hj).2 hk⟩
  | _ => exact hq

theorem stepR_scope {b : Frame} {a : Act} {k : List Item} {cs : List Frame} {c : Code} : Go.step P (lone (b.atR a (.code (.scope c) :: k)) cs w) = .next (lone (b.atR a (.code c :: .inScope c :: k)) cs w) :=
  step_lone_go (by simp [stepG, stepG.exec, Frame.atR])

theorem stepR_inScope {b : Frame} {a : Act} {k : List Item} {cs : List Frame} {c : Code} : Go.step P (lone (b.atR a (.inScope c :: k)) cs w) = .next (lone (b.atR a k) cs w) :=
  step_lone_go (by simp [stepG, stepG.exec, Frame.atR])

theorem wpIn_scope {F : Fence} {n : Nat} {c : Code} {Q : Exit → Act → World → Prop} {a : Act} (h : c.wpIn F n P (fun e a w => (∀ l, e ≠ .goto l) ∧ Q e a w) a w) : (Code.scope c).wpIn F n P Q a w := by
  intro b k cs hro hb hr
  have h0 : (lone (b.atR a (.code (.scope c) :: k)) cs w).fenced P F := fenced_calm hb hr rfl
  obtain ⟨e, a₁, w₁, ⟨hn, hq⟩, harr⟩ := h b (.inScope c :: k) cs hro hb hr
  cases e with
  | normal => exact ⟨.normal, a₁, w₁, hq, .head h0 stepR_scope (StepsIn.trans harr (.one (fenced_calm hb hr rfl) stepR_inScope))⟩
  | exit id =>
    have hx : exitTo id (.inScope c :: k) = exitTo id k := by simp [exitTo]
    exact ⟨.exit id, a₁, w₁, hq, fun k' hk => .head h0 stepR_scope (harr.1 k' (by rw [hx]; exact hk)),
      fun hr' hk => let ⟨k₁, h1, h2⟩ := harr.2 hr' (by rw [hx]; exact hk); ⟨k₁, h1, .head h0 stepR_scope h2⟩⟩
  | goto l => exact absurd rfl (hn l)
  | ret => exact ⟨_, a₁, w₁, hq, .of_steps (.one h0 stepR_scope) harr⟩
  | panic ch => exact ⟨_, a₁, w₁, hq, .of_steps (.one h0 stepR_scope) harr⟩
  | outgrown => exact ⟨_, a₁, w₁, hq, .of_steps (.one h0 stepR_scope) harr⟩

end Go.Ax
