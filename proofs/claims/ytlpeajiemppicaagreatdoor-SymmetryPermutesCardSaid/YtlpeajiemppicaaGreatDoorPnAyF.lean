/- Every operation, calls taken in. -/
import Derived.Test.YtlpeajiemppicaaGreatDoorPnAyE
namespace Go.Ax
set_option linter.unusedVariables false
set_option linter.unusedSimpArgs false
variable {P : Program} {pol : Pol} {ρ : Loc} {R T : Nat → Prop} {w : World}

section
variable {rec : Task → Option Res} {env : Env} {st st' : St} {a : Act} {o : Oper} {v : AVal} {tch : Bool} {cx : Cx} {Res : Nat → Prop} (hP : Sane pol P) (hr : RecCall P pol rec) (hc : RecCode P pol rec)
  (hg : Good ρ Res T st w) (he : EnvOk ρ (Rs ρ st.heap Res) T w env a.tmps) (hgl : GlobOk pol ρ (Rs ρ st.heap Res) T w)
include hP hr hc hg he hgl

theorem acall_ok {c : Call} (ho : o.op = .call c) (h : acall rec pol P env st c = some (v, st', tch)) {next : Act → World → Prop} {Q : Exit → Act → World → Prop} (r : Option Nat)
    (hk : ∀ x w' ρ', (tch = false → ρ' = ρ) → Fit ρ' (Rs ρ' st'.heap Res) T w' v x → Ev ρ ρ' st st' w w' → Good ρ' Res T st' w' → next (a.put o.dst x) w') : (tch = false → st' = st) ∧ o.wpIn (Fr r) 0 P a w next Q := by
  have hdef : ∀ d, o.op ≠ .defer d := fun d e => by rw [ho] at e; cases e
  have hex : ∀ w, (execOp a.eval o).run P w = (do let d ← resolve a.eval c o.type; invoke d.target d.args : Sem Next).run P w := fun w => by simp only [execOp, ho]
  unfold acall at h
  cases ht : atgt pol P env st c with
  | none => rw [ht] at h; cases h
  | some tgt =>
    rw [ht] at h
    unfold atgt at ht
    cases hargs : evL pol env c.args.toList with
    | none => rw [hargs] at ht; cases ht
    | some args =>
      rw [hargs] at ht
      have hA := evL_ok he hgl hargs
      simp only at ht
      cases hcal : c.callee with
      | builtin b => rw [hcal] at ht; cases ht
      | value f =>
        rw [hcal] at ht
        simp only at ht
        split at ht
        · rename_i g first captured hfv
          simp only [Option.some.injEq] at ht
          subst ht
          simp only at h
          have hF := aev_ok he hgl hfv
          generalize hfe : a.eval f = F at hF
          cases hF with
          | func _ _ _ F1 C1 p1 p2 p3 p4 =>
            have hall : FitL ρ (Rs ρ st.heap Res) T w (first ++ args ++ captured) (F1.toList ++ c.args.toList.map a.eval ++ C1.toList) := ((FitL.ofArray p1 p3).append hA).append (FitL.ofArray p2 p4)
            obtain ⟨hb, hcall, ht⟩ := acallFn_ok hP.2 hr hg hgl hall h
            refine ⟨ht, wpIn_enter (f := g) (args := (F1.toList ++ c.args.toList.map a.eval ++ C1.toList).toArray) (S := fun x w' => ∃ ρ', (tch = false → ρ' = ρ) ∧ Fit ρ' (Rs ρ' st'.heap Res) T w' v x ∧ Ev ρ ρ' st st' w w' ∧ Good ρ' Res T st' w') hdef ?_ ?_ (fun x w' ⟨ρ', k0, k1, k2, k3⟩ => hk x w' ρ' k0 k1 k2 k3)⟩
            · rw [hex, run_ofCall hcal hfe]
              simp only [invoke]
              have e : (F1 ++ c.args.map a.eval ++ C1) = (F1.toList ++ c.args.toList.map a.eval ++ C1.toList).toArray := by apply Array.ext'; simp
              rw [run_callFunc hP.1 hb, e]
            · exact hcall.mono fun e w' he => by cases e <;> exact he
        · rename_i b inc hfv
          simp only [Option.some.injEq] at ht
          subst ht
          simp only at h
          have hF := aev_ok he hgl hfv
          generalize hfe : a.eval f = F at hF
          cases hF with
          | yld _ _ g hy =>
            obtain ⟨fn, tmps, assign, body, hyr, hround, rfl⟩ := around_ok hc hg hgl hA hy h r
            refine ⟨(fun h => by cases h), wpIn_round (S := fun x w' => ∃ ρ', Fit ρ' (Rs ρ' st'.heap Res) T w' v x ∧ Ev ρ ρ' st st' w w' ∧ Good ρ' Res T st' w') hdef ?_ hround (fun x w' ⟨ρ', k1, k2, k3⟩ => hk x w' ρ' (fun h => by cases h) k1 k2 k3)⟩
            rw [hex, run_ofCall hcal hfe]
            simp only [invoke]
            have e : (#[] ++ c.args.map a.eval) = (c.args.toList.map a.eval).toArray := by apply Array.ext'; simp
            rw [e]
            exact hyr
        · cases ht
      | invoke rv name =>
        rw [hcal] at ht
        simp only at ht
        split at ht
        · rename_i t x hx
          cases hm : amethod P st t x name with
          | none => rw [hm] at ht; cases ht
          | some fr =>
            obtain ⟨f, recv⟩ := fr
            rw [hm] at ht
            simp only [Option.some.injEq] at ht
            subst ht
            simp only at h
            have hF := aev_ok he hgl hx
            generalize hfe : a.eval rv = F at hF
            cases hF with
            | iface _ _ X hX =>
              obtain ⟨z, hz1, hz2⟩ := amethod_ok hg hm hX (P.types.size + 99)
              have hall : FitL ρ (Rs ρ st.heap Res) T w (recv :: args) (z :: c.args.toList.map a.eval) := ⟨by simpa using hA.1, fun j hj => by
                cases j with
                | zero => exact hz2
                | succ j => have := hA.2 j (by simpa using hj); simpa using this⟩
              obtain ⟨hb, hcall, ht⟩ := acallFn_ok hP.2 hr hg hgl hall h
              refine ⟨ht, wpIn_enter (f := f) (args := (z :: c.args.toList.map a.eval).toArray) (S := fun x w' => ∃ ρ', (tch = false → ρ' = ρ) ∧ Fit ρ' (Rs ρ' st'.heap Res) T w' v x ∧ Ev ρ ρ' st st' w w' ∧ Good ρ' Res T st' w') hdef ?_ ?_ (fun x w' ⟨ρ', k0, k1, k2, k3⟩ => hk x w' ρ' k0 k1 k2 k3)⟩
              · rw [hex]
                simp only [resolve, hcal, hfe, Sem.run_bind, Sem.run_pure, Result.andThen_ok, invoke]
                have e0 : (#[Value.iface t X] ++ c.args.map a.eval)[0]? = some (Value.iface t X) := by rw [← Array.getElem?_toList, Array.toList_append]; rfl
                have e1 : (#[Value.iface t X] ++ c.args.map a.eval).extract 1 (#[Value.iface t X] ++ c.args.map a.eval).size = c.args.map a.eval := by apply Array.ext'; simp; rw [List.take_of_length_le (by simp)]
                have e : (#[z] ++ c.args.map a.eval) = (z :: c.args.toList.map a.eval).toArray := by apply Array.ext'; simp
                have ep : (program).run P w = .ok P w := by simp [program, Sem.run]
                have hz1' : (method (P.types.size + Made.depth) t X name).run P w = .ok (f, z) w := hz1
                simp only [e0, e1, callMethod, Sem.run_bind, ep, Result.andThen_ok, hz1']
                rw [run_callFunc hP.1 hb, e]
              · exact hcall.mono fun e w' he => by cases e <;> exact he
        · cases ht

theorem aoper_ok (h : aoper rec pol cx P env st o = some (v, st', tch)) {next : Act → World → Prop} {Q : Exit → Act → World → Prop} (r : Option Nat)
    (hk : ∀ x w' ρ', (tch = false → ρ' = ρ) → Fit ρ' (Rs ρ' st'.heap Res) T w' v x → Ev ρ ρ' st st' w w' → Good ρ' Res T st' w' → next (a.put o.dst x) w') : (tch = false → st' = st) ∧ o.wpIn (Fr r) 0 P a w next Q := by
  have hop : aop pol cx P env st o = some (v, st', tch) → (tch = false → st' = st) ∧ o.wpIn (Fr r) 0 P a w next Q := by
    intro h
    have hdef : ∀ d, o.op ≠ .defer d := fun d e => by simp only [aop, e, reduceCtorEq] at h
    obtain ⟨nx, x, w', ρ', h1, h2, h3, h4, h5, h6⟩ := aop_ok hg he hgl h
    exact ⟨fun h => (h6 h).1, wpIn_value hdef h1 h2 (hk x w' ρ' (fun h => (h6 h).2) h3 h4 h5)⟩
  unfold aoper at h
  split at h
  · rename_i c ho
    split at h
    · exact hop h
    · exact acall_ok hP hr hc hg he hgl ho h r hk
  · exact hop h
end
end Go.Ax
