/- The interpreter is sound: what it answers, every run answers. -/
import Derived.Test.YtlpeajiemppicaaGreatDoorPnAyO
namespace Go.Ax
set_option linter.unusedVariables false
set_option linter.unusedSimpArgs false
variable {P : Program} {pol : Pol} {ρ : Loc} {R T : Nat → Prop} {w : World}

def Sound (P : Program) (pol : Pol) (n : Nat) : Prop := RecCall P pol (exec pol P n) ∧ RecCode P pol (exec pol P n)

theorem sound_code (hP : Sane pol P) (hm : P.follows .mixedOrders = true) {n : Nat} (ih : ∀ m, m ≤ n → Sound P pol m) : RecCode P pol (exec pol P (n + 1)) := by
  intro c cx env st out env' st' h ρ Res T w a r hg hgl he hs hF
  obtain ⟨hr, hc⟩ := ih n (Nat.le_refl n)
  have h0 := h
  simp only [exec, Ax.step, acode] at h
  cases c with
  | skip =>
    simp only [Option.some.injEq, Ax.Res.mk.injEq] at h
    obtain ⟨rfl, rfl, rfl⟩ := h
    exact wpIn_skip (CodeR.done rfl hg he hs)
  | label l =>
    simp only [Option.some.injEq, Ax.Res.mk.injEq] at h
    obtain ⟨rfl, rfl, rfl⟩ := h
    exact wpIn_label (CodeR.done rfl hg he hs)
  | exit id =>
    simp only [Option.some.injEq, Ax.Res.mk.injEq] at h
    obtain ⟨rfl, rfl, rfl⟩ := h
    exact wpIn_exit (CodeR.done rfl hg he hs)
  | goto id =>
    simp only [Option.some.injEq, Ax.Res.mk.injEq] at h
    obtain ⟨rfl, rfl, rfl⟩ := h
    exact wpIn_goto (CodeR.done rfl hg he hs)
  | ret =>
    simp only [Option.some.injEq, Ax.Res.mk.injEq] at h
    obtain ⟨rfl, rfl, rfl⟩ := h
    exact wpIn_ret (CodeR.done rfl hg he hs)
  | refuse x => cases h
  | seq x y =>
    simp only at h
    cases hx : exec pol P n (.code x cx env st) with
    | none => rw [hx] at h; cases h
    | some r1 =>
      obtain ⟨o1, env1, st1⟩ := r1
      rw [hx] at h
      have wx := hc _ _ _ _ _ _ _ hx ρ Res T w a r hg hgl he hs hF
      refine wpIn_seq (wpIn_mono wx ?_)
      intro e a1 w1 hq
      cases o1 with
      | norm =>
        simp only at h
        obtain ⟨h1, ρ1, rs, k1, k2, k3, k4, k5, k6⟩ := hq
        cases h1
        have wy := hc _ _ _ _ _ _ _ h ρ1 Res T w1 a1 r k4 (hgl.ev k3 hg.res) k1 k2 (hF.ext k3.ext)
        exact wpIn_mono wy fun e a' w' hq => CodeR.trans k3 k5 k6 hq
      | val v =>
        obtain ⟨h1, _⟩ := hq
        cases h1
      | exit | goto | ret =>
        simp only [Option.some.injEq, Ax.Res.mk.injEq] at h
        obtain ⟨rfl, rfl, rfl⟩ := h
        have h1 := hq.1
        cases h1
        exact hq
  | cond x y z =>
    simp only at h
    cases hx : aev pol env x with
    | none => rw [hx] at h; cases h
    | some v =>
      rw [hx] at h
      cases v with
      | bool t =>
        simp only at h
        have hv := aev_ok he hgl hx
        generalize hX : a.eval x = X at hv
        cases hv
        refine wpIn_cond (t := t) hX ?_
        have := hc _ _ _ _ _ _ _ h ρ Res T w a r hg hgl he hs hF
        cases t <;> exact this
      | _ => cases h
  | block id x =>
    simp only at h
    cases hx : exec pol P n (.code x cx env st) with
    | none => rw [hx] at h; cases h
    | some r1 =>
      obtain ⟨o1, env1, st1⟩ := r1
      rw [hx] at h
      have wx := hc _ _ _ _ _ _ _ hx ρ Res T w a r hg hgl he hs hF
      refine wpIn_block (wpIn_mono wx ?_)
      intro e a1 w1 hq
      have h1 := hq.1
      cases o1 with
      | exit id' =>
        cases h1
        simp only at h
        cases hid : (id' == id) with
        | true =>
          rw [hid] at h
          simp only [cond_true, Option.some.injEq, Ax.Res.mk.injEq] at h
          obtain ⟨rfl, rfl, rfl⟩ := h
          simp only [beq_iff_eq] at hid
          simp only [Exit.inBlock, hid, if_true]
          exact ⟨rfl, hq.2⟩
        | false =>
          rw [hid] at h
          simp only [cond_false, Option.some.injEq, Ax.Res.mk.injEq] at h
          obtain ⟨rfl, rfl, rfl⟩ := h
          have : ¬ id' = id := by simpa using hid
          simp only [Exit.inBlock, this, if_false]
          exact hq
      | val v => cases h1
      | norm | goto | ret =>
        simp only [Option.some.injEq, Ax.Res.mk.injEq] at h
        obtain ⟨rfl, rfl, rfl⟩ := h
        cases h1
        exact hq
  | loop x =>
    refine wpIn_loop_fuel (n0 := n + 1) (fun k a1 w1 => k ≤ n + 1 ∧ ∃ env1 st1 ρ1 rs, exec pol P k (.code (.loop x) cx env1 st1) = some ⟨out, env', st'⟩ ∧ EnvOk ρ1 (Rs ρ1 st1.heap Res) T w1 env1 a1.tmps ∧ a1.tmps.size = cx.nt ∧ Ev ρ ρ1 st st1 w w1 ∧ Good ρ1 Res T st1 w1 ∧ a1.defers = rs.map mark ++ a.defers ∧ MarksOk ρ1 st1 w w1 rs)
      ⟨Nat.le_refl _, env, st, ρ, [], h0, he, hs, Ev.refl .., hg, rfl, .nil ..⟩ ?_
    rintro k a1 w1 ⟨hk, env1, st1, ρ1, rs, hx, k1, k2, k3, k4, k5, k6⟩
    cases k with
    | zero => cases hx
    | succ k =>
      obtain ⟨hr', hc'⟩ := ih k (by omega)
      simp only [exec, Ax.step, acode] at hx
      cases hb : exec pol P k (.code x cx env1 st1) with
      | none => rw [hb] at hx; cases hx
      | some r1 =>
        obtain ⟨o1, env2, st2⟩ := r1
        rw [hb] at hx
        have wx := hc' _ _ _ _ _ _ _ hb ρ1 Res T w1 a1 r k4 (hgl.ev k3 hg.res) k1 k2 (hF.ext k3.ext)
        refine wpIn_mono wx ?_
        intro e a2 w2 hq
        have hq' := CodeR.trans k3 k5 k6 hq
        cases o1 with
        | norm =>
          simp only at hx
          obtain ⟨h1, ρ2, rs2, j1, j2, j3, j4, j5, j6⟩ := hq'
          cases h1
          exact ⟨k, by omega, by omega, env2, st2, ρ2, rs2, hx, j1, j2, j3, j4, j5, j6⟩
        | val v =>
          have h1 := hq.1
          cases h1
        | exit | goto | ret =>
          simp only [Option.some.injEq, Ax.Res.mk.injEq] at hx
          obtain ⟨rfl, rfl, rfl⟩ := hx
          have h1 := hq.1
          cases h1
          exact hq'
  | scope x =>
    simp only at h
    cases hx : exec pol P n (.code x cx env st) with
    | none => rw [hx] at h; cases h
    | some r1 =>
      obtain ⟨o1, env1, st1⟩ := r1
      rw [hx] at h
      have wx := hc _ _ _ _ _ _ _ hx ρ Res T w a r hg hgl he hs hF
      refine wpIn_scope (wpIn_mono wx ?_)
      intro e a1 w1 hq
      have h1 := hq.1
      cases o1 with
      | goto l => cases h
      | val v => cases h1
      | norm | exit | ret =>
        simp only [Option.some.injEq, Ax.Res.mk.injEq] at h
        obtain ⟨rfl, rfl, rfl⟩ := h
        cases h1
        exact ⟨(fun l e => by cases e), hq⟩
  | region id ops draw =>
    simp only at h
    cases draw with
    | false =>
      simp only [cond_false] at h
      cases hx : aops (exec pol P n) pol cx P ops ops.toList env st with
      | none => rw [hx] at h; cases h
      | some p =>
        obtain ⟨env1, st1⟩ := p
        rw [hx] at h
        simp only [Option.some.injEq, Ax.Res.mk.injEq] at h
        obtain ⟨rfl, rfl, rfl⟩ := h
        exact wpIn_region_list (aops_ok hP hr hc r hx hg hgl he hs fun _ _ _ h => h)
    | true =>
      simp only [cond_true] at h
      cases hx : adraw (exec pol P n) pol cx P ops env st with
      | none => rw [hx] at h; cases h
      | some p =>
        obtain ⟨env1, st1⟩ := p
        rw [hx] at h
        simp only [Option.some.injEq, Ax.Res.mk.injEq] at h
        obtain ⟨rfl, rfl, rfl⟩ := h
        exact adraw_ok hP hr hc hm hx hg hgl he hs r id
  | rangeFunc g params assign body => exact arange_ok hP hr h hg hgl he hs hF

theorem sound (hP : Sane pol P) (hm : P.follows .mixedOrders = true) : ∀ n, ∀ m, m ≤ n → Sound P pol m := by
  intro n
  induction n with
  | zero =>
    intro m hmn
    obtain rfl : m = 0 := by omega
    exact ⟨(fun _ _ _ _ _ _ h => by cases h), (fun _ _ _ _ _ _ _ h => by cases h)⟩
  | succ n ih =>
    intro m hmn
    rcases Nat.lt_or_ge m (n + 1) with h | h
    · exact ih m (by omega)
    · obtain rfl : m = n + 1 := by omega
      refine ⟨fun f args st v e st' h ρ Res T w xs hg hgl hf => ?_, sound_code hP hm ih⟩
      exact acallBody_ok (ih n (Nat.le_refl n)).2 h hg hgl hf

/-- **What the interpreter answers of a call, every run of the model answers.** -/
theorem exec_calls (hP : Sane pol P) (hm : P.follows .mixedOrders = true) {n : Nat} {f : FuncId} {args : List AVal} {st st' : St} {v : AVal} {e : Env} (h : exec pol P n (.call f args st) = some ⟨.val v, e, st'⟩)
    {Res : Nat → Prop} {xs : List Value} (hg : Good ρ Res T st w) (hgl : GlobOk pol ρ (Rs ρ st.heap Res) T w) (hf : FitL ρ (Rs ρ st.heap Res) T w args xs) : CallsIn Fence.wide 0 P f xs.toArray w (CallR ρ Res T st st' w v) :=
  ((sound hP hm n n (Nat.le_refl n)).1 _ _ _ _ _ _ h ρ Res T w xs hg hgl hf).2
end Go.Ax
