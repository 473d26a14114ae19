/- The statement 'range over a function'. -/
import Derived.Test.YtlpeajiemppicaaGreatDoorPnAyH
namespace Go.Ax
set_option linter.unusedVariables false
set_option linter.unusedSimpArgs false
variable {P : Program} {pol : Pol} {ρ : Loc} {R T : Nat → Prop} {w : World}

theorem enter_ok {cx : Cx} {Res : Nat → Prop} {st : St} (hg : Good ρ Res T st w) {r : Option Nat} (hF : FenceOk ρ cx r) (hro : roundOk cx st = true) (fn : FuncId) (tmps : Array Value) (params : Array Tmp) (assign body : Code) :
    ∃ (rs : List Nat) (w0 w1 : World) (dfr : Nat), (Instr.enterLoop fn tmps params assign body (Fr r).round).run P w = .ok (w0.heap.size, rs.map mark) w1 ∧ Ev ρ ρ st st w w0 ∧ Good ρ Res T st w0 ∧
      w1 = w0.alloc (.loop { state := .ready, pending := none, fn, tmps, params, assign, body, defers := dfr }) ∧ rs.Nodup ∧ ∀ q ∈ rs, w.heap.size ≤ q ∧ w0.heap[q]? = some (.deferred (some [])) := by
  unfold FenceOk at hF
  unfold roundOk at hro
  cases hc : cx.round with
  | none =>
    rw [hc] at hF
    simp only at hF
    subst hF
    have hh : (w.alloc (.deferred (some []))).heap = w.heap.push (.deferred (some [])) := rfl
    obtain ⟨ev, good⟩ := good_world (w' := w.alloc (.deferred (some []))) hg (by rw [hh]; simp) (fun g hlt => heap_push_old hh hlt) rfl rfl rfl
    refine ⟨[w.heap.size], w.alloc (.deferred (some [])), _, w.heap.size, ?_, ev, good, rfl, by simp, fun q hq => ?_⟩
    · rw [run_enterLoop_outer]
      have : (w.alloc (.deferred (some []))).heap.size = w.heap.size + 1 := by rw [hh]; simp
      rw [this]; rfl
    · simp only [List.mem_singleton] at hq
      subst hq
      exact ⟨Nat.le_refl _, heap_push_new hh⟩
  | some p =>
    obtain ⟨b, inc⟩ := p
    rw [hc] at hF hro
    simp only at hF hro
    obtain ⟨g, hy, rfl⟩ := hF
    cases hl : lkI b st.heap with
    | none => rw [hl] at hro; cases hro
    | some blk =>
      rw [hl] at hro
      cases blk with
      | row | map | iter => cases hro
      | loop inc' s pd fn0 base nt env0 params0 assign0 body0 =>
        simp only [beq_iff_eq] at hro
        subst hro
        obtain ⟨tmps0, defers0, fn', h1, _⟩ := setLoop_ok hg hl hy
        refine ⟨[], w, _, defers0, ?_, Ev.refl .., hg, rfl, List.nodup_nil, fun q hq => by cases hq⟩
        show (Instr.enterLoop fn tmps params assign body (some g)).run P w = _
        rw [run_enterLoop_inner h1]; rfl

theorem arange_ok {rec : Task → Option Res} (hP : Sane pol P) (hr : RecCall P pol rec) {cx : Cx} {env env' : Env} {st st' : St} {g : Operand} {params : Array Tmp} {assign body : Code} {out : Out} (h : arange rec pol cx env st g params assign body = some ⟨out, env', st'⟩)
    {Res : Nat → Prop} {a : Act} {r : Option Nat} (hg : Good ρ Res T st w) (hgl : GlobOk pol ρ (Rs ρ st.heap Res) T w) (he : EnvOk ρ (Rs ρ st.heap Res) T w env a.tmps) (hs : a.tmps.size = cx.nt) (hF : FenceOk ρ cx r) :
    (Code.rangeFunc g params assign body).wpIn (Fr r) 0 P (CodeR cx ρ Res T st w a out env' st') a w := by
  unfold arange at h
  split at h
  · rename_i gf first captured p0 ps hgv hps
    cases hro : roundOk cx st with
    | false => rw [hro] at h; cases h
    | true =>
      rw [hro, cond_true] at h
      have hF0 := aev_ok he hgl hgv
      generalize hfe : a.eval g = F at hF0
      cases hF0 with
      | func _ _ _ F1 C1 p1 p2 p3 p4 =>
        refine wpIn_rangeFunc (fun fn _ => ?_)
        obtain ⟨rs, w0, w1, dfr, e1, ev0, good0, e2, e3, e4⟩ := enter_ok (P := P) hg hF hro fn a.tmps params assign body
        have hw1 : w1.heap = w0.heap.push (.loop { state := .ready, pending := none, fn, tmps := a.tmps, params, assign, body, defers := dfr }) := by rw [e2]; rfl
        obtain ⟨ev1, good1⟩ := good_new (w' := w1) (st' := { st with clock := st.clock + 1, heap := upI (.v (cx.base + p0)) (.loop st.clock .ready none cx.fn cx.base cx.nt env params.toList assign body) st.heap }) good0 (.v (cx.base + p0))
          (.loop st.clock .ready none cx.fn cx.base cx.nt env params.toList assign body) _ hw1 (by rw [e2]; rfl) (by rw [e2]; rfl) (by rw [e2]; rfl) rfl rfl rfl
        have he0 := he.ev ev0 hg.res
        have he1 := he0.ev ev1 good0.res
        have good1 := good1 ⟨w0.heap.size, bind2_same .., bind2_one good0 _, a.tmps, dfr, fn, by rw [hw1]; simp, hs, he1⟩
        have evA := ev0.trans ev1
        have hgl1 := hgl.ev evA hg.res
        have hm1 : MarksOk (bind2 ρ st.clock st.clock w0.heap.size) { st with clock := st.clock + 1, heap := upI (.v (cx.base + p0)) (.loop st.clock .ready none cx.fn cx.base cx.nt env params.toList assign body) st.heap } w w1 rs := ⟨e3, fun q hq => by
          obtain ⟨q1, q2⟩ := e4 q hq
          have hlt : q < w0.heap.size := (Array.getElem?_eq_some_iff.1 q2).1
          refine ⟨q1, by rw [heap_push_old hw1 hlt]; exact q2, fun ho => ?_⟩
          rcases ev1.new q ho with h1 | h1
          · have := own_lt hg h1; omega
          · omega⟩
        generalize hst1 : ({ st with clock := st.clock + 1, heap := upI (.v (cx.base + p0)) (.loop st.clock .ready none cx.fn cx.base cx.nt env params.toList assign body) st.heap } : St) = st1 at *
        cases hrec : rec (.call gf (first ++ [.yld (.v (cx.base + p0)) st.clock] ++ captured) st1) with
        | none => rw [hrec] at h; cases h
        | some res =>
          obtain ⟨o, env2, st2⟩ := res
          rw [hrec] at h
          cases o with
          | norm | exit | goto | ret => cases h
          | val v =>
            simp only at h
            have hall : FitL (bind2 ρ st.clock st.clock w0.heap.size) (Rs (bind2 ρ st.clock st.clock w0.heap.size) st1.heap Res) T w1 (first ++ [.yld (.v (cx.base + p0)) st.clock] ++ captured) (F1.toList ++ [Value.func (.yield w0.heap.size) #[] #[]] ++ C1.toList) :=
              (((FitL.ofArray p1 p3).ev evA hg.res).append ⟨rfl, fun j hj => by
                obtain rfl : j = 0 := by simpa using hj
                exact .yld _ _ _ (bind2_same ..)⟩).append ((FitL.ofArray p2 p4).ev evA hg.res)
            obtain ⟨hb, hcall⟩ := hr _ _ _ _ _ _ hrec _ Res T w1 _ good1 hgl1 hall
            have ea : (F1 ++ #[Value.func (.yield w0.heap.size) #[] #[]] ++ C1) = (F1.toList ++ [Value.func (.yield w0.heap.size) #[] #[]] ++ C1.toList).toArray := by apply Array.ext'; simp
            refine ⟨w0.heap.size, rs.map mark, w1, { target := .fn (.func gf) C1, args := F1 ++ #[Value.func (.yield w0.heap.size) #[] #[]] }, w1, gf, (F1.toList ++ [Value.func (.yield w0.heap.size) #[] #[]] ++ C1.toList).toArray, w1, e1, ?_, fun _ _ => trivial, ?_, fun (h : (none : Option Nat).isSome = true) => by simp at h, ?_⟩
            · simp only [resolve, rangeCall, hfe, Deferred.ofValue]
              simp [Act.eval]
            · simp only [invoke]
              rw [run_callFunc hP.1 hb, ea]
            · have hcall' : CallsIn (Fr r) (0 - 1) P gf (F1.toList ++ [Value.func (.yield w0.heap.size) #[] #[]] ++ C1.toList).toArray w1 _ := hcall
              refine hcall'.mono fun e w3 hR => ?_
              cases e with
              | panicked | outgrown => exact hR.elim
              | returned x =>
                obtain ⟨ρ2, _, ev2, good2⟩ := hR
                have hy2 := ev2.ext _ _ _ (bind2_same ρ st.clock st.clock w0.heap.size)
                have fin : ∀ {s : LoopState} {pd : Option Code} {fn2 base2 nt2 env2 params2 assign2 body2}, s ≠ .busy → lkI (.v (cx.base + p0)) st2.heap = some (.loop st.clock s pd fn2 base2 nt2 env2 params2 assign2 body2) →
                    (match jumpOut pd with | some o => some (⟨o, env, { st2 with heap := erI (.v (cx.base + p0)) st2.heap }⟩ : Ax.Res) | none => none) = some ⟨out, env', st'⟩ →
                    rangePost (Fr r) 0 P w0.heap.size (CodeR cx ρ Res T st w a out env' st') { a with defers := rs.map mark ++ a.defers } (.returned x) w3 := by
                  intro s pd fn2 base2 nt2 envb params2 assign2 body2 hne hl2 hout
                  obtain ⟨tmps2, defers2, fn2', q1, _, _, q4⟩ := setLoop_ok good2 hl2 hy2
                  obtain ⟨ev3, good3⟩ := q4 .exhausted pd
                  obtain ⟨ev4, good4⟩ := good_drop (st' := { st2 with heap := erI (.v (cx.base + p0)) st2.heap }) good3 (fun b k hk => by
                    simp only [lkI_erI] at hk
                    simp only [lkI_upI]
                    by_cases e : Id.v (cx.base + p0) = b
                    · simp [e] at hk
                    · simp only [e, if_false] at hk ⊢; exact hk) (Nat.le_refl _)
                  have evB := (ev2.trans ev3).trans ev4
                  have evC := evA.trans evB
                  cases hj : jumpOut pd with
                  | none => rw [hj] at hout; cases hout
                  | some o =>
                    rw [hj] at hout
                    simp only [Option.some.injEq, Ax.Res.mk.injEq] at hout
                    obtain ⟨rfl, rfl, rfl⟩ := hout
                    have hcode : ∀ ex, exitOf o = some ex → CodeR cx ρ Res T st w a o env { st2 with heap := erI (.v (cx.base + p0)) st2.heap } ex { a with defers := rs.map mark ++ a.defers } _ := fun ex hex =>
                      ⟨hex, ρ2, rs, he1.ev evB good1.res, hs, evC, good4, rfl, hm1.later evB⟩
                    refine ⟨pd, _, run_endLoop q1 hne, ?_⟩
                    cases pd with
                    | none => simp only [jumpOut, Option.some.injEq] at hj; subst hj; exact hcode _ rfl
                    | some c =>
                      cases c with
                      | ret => simp only [jumpOut, Option.some.injEq] at hj; subst hj; exact wpIn_ret (hcode _ rfl)
                      | exit id => simp only [jumpOut, Option.some.injEq] at hj; subst hj; exact wpIn_exit (hcode _ rfl)
                      | goto id => simp only [jumpOut, Option.some.injEq] at hj; subst hj; exact wpIn_goto (hcode _ rfl)
                      | _ => simp [jumpOut] at hj
                split at h
                · rename_i inc pd fn2 base2 nt2 env2' params2 assign2 body2 hl2
                  cases hc2 : (inc == st.clock) with
                  | false => rw [hc2] at h; cases h
                  | true =>
                    rw [hc2, cond_true] at h
                    simp only [beq_iff_eq] at hc2
                    subst hc2
                    exact fin (by simp) hl2 h
                · rename_i inc pd fn2 base2 nt2 env2' params2 assign2 body2 hl2
                  cases hc2 : (inc == st.clock) with
                  | false => rw [hc2] at h; cases h
                  | true =>
                    rw [hc2, cond_true] at h
                    simp only [beq_iff_eq] at hc2
                    subst hc2
                    exact fin (by simp) hl2 h
                · cases h
  · cases h
end Go.Ax
