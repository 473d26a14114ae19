/- Rounds of a range over a function; every operation, calls taken in. -/
import Derived.Test.YtlpeajiemppicaaGreatDoorPnAyD
import Derived.RangeFuncNested
namespace Go.Ax
set_option linter.unusedVariables false
set_option linter.unusedSimpArgs false
variable {P : Program} {pol : Pol} {ρ : Loc} {R T : Nat → Prop} {w : World}

/-- A loop's record, read and written. -/
theorem setLoop_ok {Res : Nat → Prop} {st : St} (hg : Good ρ Res T st w) {b : Id} {inc : Nat} {s : LoopState} {pd : Option Code} {fn : FuncId} {base nt : Nat} {env : Env} {params : List Tmp} {assign body : Code}
    (hl : lkI b st.heap = some (.loop inc s pd fn base nt env params assign body)) {g : Nat} (hr : ρ inc inc = some g) :
    ∃ (tmps : Array Value) (defers : Nat) (fn' : FuncId), w.heap[g]? = some (.loop { state := s, pending := pd, fn := fn', tmps, params := params.toArray, assign, body, defers }) ∧ tmps.size = nt ∧ EnvOk ρ (Rs ρ st.heap Res) T w env tmps ∧
      ∀ (s' : LoopState) (pd' : Option Code), Ev ρ ρ st { st with heap := upI b (.loop inc s' pd' fn base nt env params assign body) st.heap } w (w.putObj g (.loop { state := s', pending := pd', fn := fn', tmps, params := params.toArray, assign, body, defers })) ∧
        Good ρ Res T { st with heap := upI b (.loop inc s' pd' fn base nt env params assign body) st.heap } (w.putObj g (.loop { state := s', pending := pd', fn := fn', tmps, params := params.toArray, assign, body, defers })) := by
  obtain ⟨g', h1, hone, tmps, defers, fn', h2, h3, h4⟩ := hg.blk b _ hl
  rw [hr] at h1; cases h1
  refine ⟨tmps, defers, fn', h2, h3, h4, fun s' pd' => ?_⟩
  obtain ⟨a1, ev, good⟩ := good_obj (blk' := .loop inc s' pd' fn base nt env params assign body) hg hl rfl hr hone h2 (fun _ _ _ e => by cases e) (o' := .loop { state := s', pending := pd', fn := fn', tmps, params := params.toArray, assign, body, defers })
    (fun _ _ _ e => by cases e) (w' := w.putObj g (.loop { state := s', pending := pd', fn := fn', tmps, params := params.toArray, assign, body, defers })) rfl
  exact ⟨ev, good ⟨g, hr, hone, tmps, defers, fn', a1, h3, h4.ev ev hg.res⟩⟩

theorem around_ok {rec : Task → Option Res} (hc : RecCode P pol rec) {Res : Nat → Prop} {st st' : St} (hg : Good ρ Res T st w) (hgl : GlobOk pol ρ (Rs ρ st.heap Res) T w) {b : Id} {inc : Nat} {args : List AVal} {xs : List Value}
    (hf : FitL ρ (Rs ρ st.heap Res) T w args xs) {g : Nat} (hy : ρ inc inc = some g) {v : AVal} {tch : Bool} (h : around rec b inc args st = some (v, st', tch)) (r : Option Nat) :
    ∃ f tmps assign body, (Instr.yield g xs.toArray).run P w = .ok (.round g f tmps assign body) w ∧
      RoundIn (Fr r) 0 P g f tmps assign body w (fun e w' => match e with | .returned x => ∃ ρ', Fit ρ' (Rs ρ' st'.heap Res) T w' v x ∧ Ev ρ ρ' st st' w w' ∧ Good ρ' Res T st' w' | _ => False) ∧ tch = true := by
  unfold around at h
  cases hl : lkI b st.heap with
  | none => rw [hl] at h; cases h
  | some blk =>
    rw [hl] at h
    cases blk with
    | row | map | iter => cases h
    | loop inc' s pd fn base nt env params assign body =>
      cases s with
      | busy | done | exhausted => cases h
      | ready =>
        simp only at h
        cases hcnd : (inc' == inc && args.length == params.length && params.all fun t => Nat.blt t nt) with
        | false => rw [hcnd] at h; cases h
        | true =>
          rw [hcnd, cond_true] at h
          simp only [Bool.and_eq_true, beq_iff_eq] at hcnd
          obtain ⟨⟨rfl, hlen⟩, hnt⟩ := hcnd
          obtain ⟨tmps, defers, fn', h1, h2, h3, _⟩ := setLoop_ok hg hl hy
          cases hra : rec (.code assign ⟨fn, base, nt, some (b, inc')⟩ (setParams params args env) st) with
          | none => rw [hra] at h; cases h
          | some r1 =>
            obtain ⟨o1, env1, st1⟩ := r1
            rw [hra] at h
            cases o1 with
            | exit | goto | ret | val => cases h
            | norm =>
              simp only at h
              cases hl1 : lkI b st1.heap with
              | none => rw [hl1] at h; cases h
              | some blk1 =>
                rw [hl1] at h
                cases blk1 with
                | row | map | iter => cases h
                | loop inc1 s1 pd1 fn1 base1 nt1 envL params1 assign1 body1 =>
                  cases s1 with
                  | busy | done | exhausted => cases h
                  | ready =>
                    simp only at h
                    cases hc1 : (inc1 == inc') with
                    | false => rw [hc1] at h; cases h
                    | true =>
                      rw [hc1, cond_true] at h
                      simp only [beq_iff_eq] at hc1
                      subst hc1
                      cases hrb : rec (.code body ⟨fn, base, nt, some (b, inc1)⟩ env1 { st1 with heap := upI b (.loop inc1 .busy pd1 fn1 base1 nt1 envL params1 assign1 body1) st1.heap }) with
                      | none => rw [hrb] at h; cases h
                      | some r2 =>
                        obtain ⟨o2, env2, st2⟩ := r2
                        rw [hrb] at h
                        simp only at h
                        cases hl2 : lkI b st2.heap with
                        | none => rw [hl2] at h; cases h
                        | some blk2 =>
                          rw [hl2] at h
                          cases blk2 with
                          | row | map | iter => cases h
                          | loop inc2 s2 pd2 fn2 base2 nt2 envL2 params2 assign2 body2 =>
                            cases s2 with
                            | ready | done | exhausted => cases h
                            | busy =>
                              simp only at h
                              cases hc2 : (inc2 == inc1) with
                              | false => rw [hc2] at h; cases h
                              | true =>
                                rw [hc2, cond_true] at h
                                simp only [beq_iff_eq] at hc2
                                subst hc2
                                have htch : tch = true := by cases o2 <;> simp only [Option.some.injEq, Prod.mk.injEq, reduceCtorEq] at h <;> exact h.2.2.symm
                                have hsz : xs.toArray.size = params.toArray.size := by simp; rw [hf.1, hlen]
                                refine ⟨fn', (params.toArray.zip xs.toArray).foldl (fun tmps (t, a) => tmps.setIfInBounds t a) tmps, assign, body, run_yield (P := P) h1 hsz, ?_, htch⟩
                                have hz : (params.toArray.zip xs.toArray).foldl (fun tmps (t, a) => tmps.setIfInBounds t a) tmps = (params.zip xs).foldl (fun tmps p => tmps.setIfInBounds p.1 p.2) tmps := by
                                  rw [← Array.foldl_toList]; simp [Array.toList_zip]
                                rw [hz]
                                obtain ⟨e1, e2⟩ := setParams_ok (ts := params) hf hlen (fun t ht => by
                                  have := List.all_eq_true.1 hnt t ht
                                  simpa [h2] using this) h3
                                have w1 := hc _ _ _ _ _ _ _ hra ρ Res T w { tmps := (params.zip xs).foldl (fun tmps p => tmps.setIfInBounds p.1 p.2) tmps, defers := [] } (some g) hg hgl e1 (by rw [e2]; exact h2) ⟨g, hy, rfl⟩
                                refine roundIn_of_wpIn (F := Fr r) trivial ?_
                                refine wpIn_mono (F := Fr (some g)) w1 ?_
                                rintro e a1 w1 ⟨he, ρ1, rs1, k1, k2, k3, k4, k5, k6⟩
                                cases he
                                have hy1 := k3.ext _ _ _ hy
                                obtain ⟨tmps1, defers1, fn1', q1, q2, q3, q4⟩ := setLoop_ok k4 hl1 hy1
                                obtain ⟨ev1, good1⟩ := q4 .busy pd1
                                have hgl1 := (hgl.ev k3 hg.res).ev ev1 k4.res
                                refine ⟨_, run_beginRound q1 rfl, ?_⟩
                                have w2 := hc _ _ _ _ _ _ _ hrb ρ1 Res T _ a1 (some g) good1 hgl1 (k1.ev ev1 k4.res) k2 ⟨g, hy1, rfl⟩
                                refine wpIn_mono (F := Fr (some g)) w2 ?_
                                rintro e a2 w3 ⟨he2, ρ2, rs2, m1, m2, m3, m4, m5, m6⟩
                                have hy2 := m3.ext _ _ _ hy1
                                obtain ⟨tmps2, defers2, fn2', p1, p2, p3, p4⟩ := setLoop_ok m4 hl2 hy2
                                have all := (k3.trans ev1).trans m3
                                cases o2 with
                                | val => cases h
                                | norm =>
                                  simp only [Option.some.injEq, Prod.mk.injEq] at h
                                  obtain ⟨rfl, rfl, rfl⟩ := h
                                  cases he2
                                  obtain ⟨ev3, good3⟩ := p4 .ready none
                                  exact ⟨_, _, run_endRound none p1, ρ2, .bool true, all.trans ev3, good3⟩
                                | ret =>
                                  simp only [Option.some.injEq, Prod.mk.injEq] at h
                                  obtain ⟨rfl, rfl, rfl⟩ := h
                                  cases he2
                                  obtain ⟨ev3, good3⟩ := p4 .done (some .ret)
                                  exact ⟨_, _, run_endRound (some .ret) p1, ρ2, .bool false, all.trans ev3, good3⟩
                                | exit id =>
                                  simp only [Option.some.injEq, Prod.mk.injEq] at h
                                  obtain ⟨rfl, rfl, rfl⟩ := h
                                  cases he2
                                  obtain ⟨ev3, good3⟩ := p4 .done (some (.exit id))
                                  exact ⟨_, _, run_endRound (some (.exit id)) p1, ρ2, .bool false, all.trans ev3, good3⟩
                                | goto id =>
                                  simp only [Option.some.injEq, Prod.mk.injEq] at h
                                  obtain ⟨rfl, rfl, rfl⟩ := h
                                  cases he2
                                  obtain ⟨ev3, good3⟩ := p4 .done (some (.goto id))
                                  exact ⟨_, _, run_endRound (some (.goto id)) p1, ρ2, .bool false, all.trans ev3, good3⟩
end Go.Ax
