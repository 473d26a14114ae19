/- Functions from their bodies. -/
import Derived.Test.YtlpeajiemppicaaGreatDoorPnAyG
namespace Go.Ax
set_option linter.unusedVariables false
set_option linter.unusedSimpArgs false
variable {P : Program} {pol : Pol} {ρ : Loc} {R T : Nat → Prop} {w : World}

/-- A block that isn't a row and is no one's changes. -/
theorem good_other {ρ0 : Loc} {Res : Nat → Prop} {st0 st : St} {w0 w : World} (hg : Good ρ Res T st w) (e0 : Ev ρ0 ρ st0 st w0 w) {r : Nat} {d : Option (List Deferred)} (hr : w.heap[r]? = some (.deferred d)) (hn : ¬ Own ρ st.heap r) (hge : w0.heap.size ≤ r) (o : Option (List Deferred)) :
    Ev ρ0 ρ st0 st w0 (w.putObj r (.deferred o)) ∧ Good ρ Res T st (w.putObj r (.deferred o)) ∧ ∀ x v, Fit ρ (Rs ρ st.heap Res) T w x v → Fit ρ (Rs ρ st.heap Res) T (w.putObj r (.deferred o)) x v := by
  have hother : ∀ k, k ≠ r → (w.putObj r (.deferred o)).heap[k]? = w.heap[k]? := fun k hk => World.putObj_heap_other hk
  have hsz : (w.putObj r (.deferred o)).heap.size = w.heap.size := World.putObj_size
  have hshape : ∀ g x, w.shape? g = some x → (w.putObj r (.deferred o)).shape? g = some x := fun g x hx => by
    have : g ≠ r := fun e => by subst e; simp [World.shape?, hr] at hx
    rw [shape_of_heap (hother g this)]; exact hx
  have hfit : ∀ x v, Fit ρ (Rs ρ st.heap Res) T w x v → Fit ρ (Rs ρ st.heap Res) T (w.putObj r (.deferred o)) x v := fun x v hx =>
    hx.mono (fun _ _ _ h => h) hshape (fun _ _ _ h => h) (fun a tn _ u hc => by
      have : a.block ≠ r := fun e => by
        unfold World.cell? at hc
        rw [e, hr] at hc
        simp at hc
      rw [cell_of_heap (hother _ this)]; exact hc)
  refine ⟨⟨⟨e0.ext, e0.new, fun g hlt hno => ?_, by rw [hsz]; exact e0.size, fun g x hx => hshape g x (e0.shape g x hx), e0.os, e0.tape, e0.output, e0.clock⟩, e0.old⟩, ⟨hg.inj, fun i v g h => by rw [hsz]; exact hg.lt i v g h, hg.fresh, hg.ids, fun b k hk => ?_, hg.sep, fun g h => by rw [hsz]; exact hg.res g h, fun g h => by rw [hsz]; exact hg.tnt g h⟩, hfit⟩
  · rw [hother g (by omega)]; exact e0.frame g hlt hno
  · exact (hg.blk b k hk).carry (fun _ _ _ h => h) (fun _ _ h => h) (fun v g hv => hother g (fun e => hn (e ▸ ⟨b, k, v, hk, hv⟩))) hfit

theorem leaves_ok {ρ0 : Loc} {Res : Nat → Prop} {st0 st : St} {w0 : World} {fn : Func} {tmps : Array Value} {env : Env} {E : Ending → World → Prop}
    (hend : ∀ w, Ev ρ0 ρ st0 st w0 w → Good ρ Res T st w → EnvOk ρ (Rs ρ st.heap Res) T w env tmps → ∃ v, (results fn tmps).run P w = .ok v w ∧ E (.returned v) w) :
    ∀ {rs : List Nat} {w : World}, MarksOk ρ st w0 w rs → Ev ρ0 ρ st0 st w0 w → Good ρ Res T st w → EnvOk ρ (Rs ρ st.heap Res) T w env tmps → LeavesInM Fence.wide 0 P fn tmps E (rs.map mark) .returning w := by
  intro rs
  induction rs with
  | nil => intro w _ h1 h2 h3; exact hend w h1 h2 h3
  | cons r rs ih =>
    intro w hm h1 h2 h3
    obtain ⟨m1, m2, m3⟩ := hm.2 r (by simp)
    obtain ⟨n1, n2⟩ := List.nodup_cons.1 hm.1
    obtain ⟨ev, good, fit⟩ := good_other h2 h1 m2 m3 m1 none
    refine ⟨by simp, .inl ⟨r, _, rfl, run_takeDeferred m2, ih ⟨n2, fun q hq => ?_⟩ ev good (fun k v hk => fit _ _ (h3 k v hk))⟩⟩
    obtain ⟨k1, k2, k3⟩ := hm.2 q (by simp [hq])
    have : q ≠ r := fun e => n1 (e ▸ hq)
    exact ⟨k1, by rw [World.putObj_heap_other this]; exact k2, k3⟩

def resF (tmps : Array Value) : ResultVar → Sem Value
  | .tmp t => pure (tmps.getD t undef)
  | .cell a t => do loadVar t (← asAddr (tmps.getD a undef))

theorem results_eq (fn : Func) (tmps : Array Value) : results fn tmps = (do let vs ← fn.results.mapM (resF tmps); pure (if h : vs.size = 1 then vs[0] else .tuple vs)) := rfl

theorem run_loadVar_cell {Res : Nat → Prop} {st : St} (hg : Good ρ Res T st w) {env : Env} {tmps : Array Value} (he : EnvOk ρ (Rs ρ st.heap Res) T w env tmps) {rv : ResultVar} {v : AVal} (h : aresult P env st rv = some v) :
    ∃ x, (resF tmps rv).run P w = .ok x w ∧ Fit ρ (Rs ρ st.heap Res) T w v x := by
  cases rv with
  | tmp t => exact ⟨tmps.getD t undef, by simp [resF], he t v h⟩
  | cell a t =>
    simp only [aresult] at h
    cases hl : lk a env with
    | none => rw [hl] at h; cases h
    | some p =>
      rw [hl] at h
      obtain ⟨ad, y, h1, h2, h3⟩ := aload_ok hg h (he a p hl)
      refine ⟨y, ?_, h3⟩
      simp only [resF, h1, asAddr, Sem.run_bind, Sem.run_pure, Result.andThen_ok, h2]

theorem aresults_ok {Res : Nat → Prop} {st : St} (hg : Good ρ Res T st w) {env : Env} {tmps : Array Value} (he : EnvOk ρ (Rs ρ st.heap Res) T w env tmps) :
    ∀ {l : List ResultVar} {vs : List AVal}, aresults P env st l = some vs → ∃ xs : List Value, (l.mapM (resF tmps)).run P w = .ok xs w ∧ FitL ρ (Rs ρ st.heap Res) T w vs xs
  | [], vs, h => by
    simp only [aresults, Option.some.injEq] at h; subst h
    exact ⟨[], by simp, rfl, fun j hj => by simp at hj⟩
  | rv :: l, vs, h => by
    simp only [aresults] at h
    cases h1 : aresult P env st rv with
    | none => rw [h1] at h; cases h
    | some v =>
      rw [h1] at h
      simp only at h
      cases h2 : aresults P env st l with
      | none => rw [h2] at h; cases h
      | some us =>
        rw [h2] at h
        simp only [Option.some.injEq] at h
        subst h
        obtain ⟨x, k1, k2⟩ := run_loadVar_cell hg he h1
        obtain ⟨xs, k3, k4⟩ := aresults_ok hg he h2
        refine ⟨x :: xs, ?_, by simpa using k4.1, fun j hj => ?_⟩
        · rw [List.mapM_cons]
          simp only [Sem.run_bind, k1, Result.andThen_ok, k3, Sem.run_pure]
        · cases j with
          | zero => exact k2
          | succ j => have := k4.2 j (by simpa using hj); simpa using this

theorem results_ok {Res : Nat → Prop} {st : St} (hg : Good ρ Res T st w) {env : Env} {fn : Func} {tmps : Array Value} (he : EnvOk ρ (Rs ρ st.heap Res) T w env tmps) {vs : List AVal} (h : aresults P env st fn.results.toList = some vs) :
    ∃ x, (results fn tmps).run P w = .ok x w ∧ Fit ρ (Rs ρ st.heap Res) T w (packed vs) x := by
  obtain ⟨xs, h1, h2⟩ := aresults_ok hg he h
  refine ⟨(if h : xs.toArray.size = 1 then xs.toArray[0] else .tuple xs.toArray), ?_, ?_⟩
  · rw [results_eq, Array.mapM_eq_mapM_toList]
    simp only [Sem.run_bind, Sem.run_map, h1, Result.andThen_ok, Sem.run_pure]
  · obtain ⟨hl, hf⟩ := h2
    match vs, xs, hl with
    | [], [], _ => exact .tuple [] #[] rfl (fun j h => by simp at h)
    | [v], [x], _ => exact hf 0 (by simp)
    | v :: u :: vs, x :: y :: xs, hl =>
      have hne : ¬ ((x :: y :: xs).toArray.size = 1) := by simp
      rw [dif_neg hne]
      exact .tuple _ _ (by simpa using hl) (fun j hj => by
        have := hf j hj
        simpa [Array.getD_eq_getD_getElem?, List.getD_eq_getElem?_getD] using this)

theorem lk_argEnv : ∀ (args : List AVal) (i k : Nat) (v : AVal), lk k (argEnv i args) = some v → ∃ j, k = i + j ∧ args[j]? = some v
  | [], i, k, v, h => by simp [argEnv, lk] at h
  | u :: r, i, k, v, h => by
    simp only [argEnv, lk] at h
    cases hk : (i == k) with
    | true =>
      rw [hk] at h
      simp only [cond_true, Option.some.injEq] at h
      exact ⟨0, by simpa using (beq_iff_eq.1 hk).symm, by simp [h]⟩
    | false =>
      rw [hk] at h
      obtain ⟨j, h1, h2⟩ := lk_argEnv r (i + 1) k v h
      exact ⟨j + 1, by omega, by simpa using h2⟩

theorem acallBody_ok {rec : Task → Option Res} (hc : RecCode P pol rec) {f : FuncId} {args : List AVal} {st st' : St} {v : AVal} {e : Env} (h : acallBody rec pol P f args st = some ⟨.val v, e, st'⟩) {Res : Nat → Prop} {xs : List Value} (hg : Good ρ Res T st w)
    (hgl : GlobOk pol ρ (Rs ρ st.heap Res) T w) (hf : FitL ρ (Rs ρ st.heap Res) T w args xs) : HasBody P f ∧ CallsIn Fence.wide 0 P f xs.toArray w (CallR ρ Res T st st' w v) := by
  unfold acallBody at h
  cases hfn : P.funcs[f]? with
  | none => rw [hfn] at h; cases h
  | some fn =>
    rw [hfn] at h
    simp only at h
    cases hb : fn.body with
    | none => rw [hb] at h; cases h
    | some c =>
      rw [hb] at h
      simp only at h
      cases hle : Nat.ble args.length fn.ntmps with
      | false => rw [hle] at h; cases h
      | true =>
        rw [hle, cond_true] at h
        have hle' : args.length ≤ fn.ntmps := by simpa using hle
        refine ⟨⟨fn, c, hfn, hb⟩, callsIn_of_wp_marks hfn hb trivial ?_⟩
        have key : ∀ {o env1 st1}, rec (.code c ⟨f, st.next, fn.ntmps, none⟩ (argEnv 0 args) { st with next := st.next + fn.ntmps }) = some ⟨o, env1, st1⟩ → (o = .norm ∨ o = .ret) →
            (match aresults P env1 st1 fn.results.toList with
             | some vs => some (⟨.val (packed vs), [], cond (pol.esc f) st1 { st1 with next := st.next, heap := dropV st.next st1.heap }⟩ : Ax.Res)
             | none => none) = some ⟨.val v, e, st'⟩ →
            c.wpIn Fence.wide 0 P (bodyPostM Fence.wide 0 P fn (CallR ρ Res T st st' w v)) { tmps := xs.toArray ++ Array.replicate (fn.ntmps - xs.toArray.size) undef, defers := [] } w := by
          intro o env1 st1 hrec ho hres
          cases hvs : aresults P env1 st1 fn.results.toList with
          | none => rw [hvs] at hres; cases hres
          | some vs =>
            rw [hvs] at hres
            simp only [Option.some.injEq, Ax.Res.mk.injEq, Out.val.injEq] at hres
            obtain ⟨rfl, rfl, rfl⟩ := hres
            have hg0 : Good ρ Res T { st with next := st.next + fn.ntmps } w := hg.congr rfl rfl
            have hw := hc _ _ _ _ _ _ _ hrec ρ Res T w { tmps := xs.toArray ++ Array.replicate (fn.ntmps - xs.toArray.size) undef, defers := [] } none hg0 hgl (fun k u hk => by
              obtain ⟨j, h1, h2⟩ := lk_argEnv args 0 k u hk
              have hj : j < args.length := (List.getElem?_eq_some_iff.1 h2).1
              have h3 := hf.2 j hj
              have h4 : args[j] = u := (List.getElem?_eq_some_iff.1 h2).2
              rw [h4] at h3
              have hj' : j < xs.length := by rw [hf.1]; exact hj
              have e1 : (xs.toArray ++ Array.replicate (fn.ntmps - xs.toArray.size) undef).getD k undef = xs.getD j undef := by
                rw [h1, Nat.zero_add, Array.getD_eq_getD_getElem?, Array.getElem?_append_left (by simpa using hj'), List.getD_eq_getElem?_getD]
                simp
              show Fit ρ (Rs ρ st.heap Res) T w u ((xs.toArray ++ Array.replicate (fn.ntmps - xs.toArray.size) undef).getD k undef)
              rw [e1]; exact h3) (by simp; rw [hf.1]; omega) rfl
            refine wpIn_mono (F := Fence.wide) hw ?_
            rintro ex a' w' ⟨he, ρ', rs, k1, k2, k3, k4, k5, k6⟩
            have k3' : Ev ρ ρ' st st1 w w' := ⟨⟨k3.ext, k3.new, k3.frame, k3.size, k3.shape, k3.os, k3.tape, k3.output, k3.clock⟩, k3.old⟩
            have hl : LeavesInM Fence.wide 0 P fn a'.tmps (CallR ρ Res T st (cond (pol.esc f) st1 { st1 with next := st.next, heap := dropV st.next st1.heap }) w (packed vs)) a'.defers .returning w' := by
              rw [k5, List.append_nil]
              refine leaves_ok (fun w'' j1 j2 j3 => ?_) k6 k3' k4 k1
              obtain ⟨x, r1, r2⟩ := results_ok j2 j3 hvs
              refine ⟨x, r1, ρ', ?_⟩
              cases hesc : pol.esc f with
              | true => exact ⟨r2, j1, j2⟩
              | false =>
                simp only [cond_false]
                obtain ⟨d1, d2⟩ := good_drop (st' := { st1 with next := st.next, heap := dropV st.next st1.heap }) j2 (fun b k hk => by
                  rcases lkI_dropV st.next b st1.heap with h1 | h1
                  · rw [h1] at hk; cases hk
                  · rw [h1] at hk; exact hk) (Nat.le_refl _)
                exact ⟨r2.ev d1 j2.res, j1.trans d1, d2⟩
            rcases ho with rfl | rfl <;> (simp only [exitOf, Option.some.injEq] at he; subst he; exact hl)
        split at h
        · rename_i env1 st1 hrec
          exact key hrec (.inl rfl) h
        · rename_i env1 st1 hrec
          exact key hrec (.inr rfl) h
        · cases h
end Go.Ax
