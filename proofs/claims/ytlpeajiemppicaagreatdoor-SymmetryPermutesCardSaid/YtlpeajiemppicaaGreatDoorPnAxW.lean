/- Each abstract operation stands for the model's: type assertions, methods of interface values. -/
import Derived.Test.YtlpeajiemppicaaGreatDoorPnAxV
namespace Go.Ax
set_option linter.unusedVariables false
set_option linter.unusedSimpArgs false

variable {P : Program} {pol : Pol} {ρ : Loc} {R T : Nat → Prop} {w : World}

theorem fit_pair {a : AVal} {X : Value} (h : Fit ρ R T w a X) (b : Bool) : Fit ρ R T w (.tuple [a, .bool b]) (.tuple #[X, .bool b]) :=
  .tuple _ _ (by simp) (fun j hj => by
    simp only [List.length_cons, List.length_nil] at hj
    match j, hj with
    | 0, _ => exact h
    | 1, _ => exact .bool b)

theorem extract_ok {a v : AVal} {i : Nat} {X : Value} (h : aextract a i = some v) (hx : Fit ρ R T w a X) : ∃ z, (∀ w', (Instr.extract X i).run P w' = .ok z w') ∧ Fit ρ R T w v z := by
  cases a with
  | tuple vs =>
    simp only [aextract] at h
    obtain ⟨h1, h2⟩ := List.getElem?_eq_some_iff.1 h
    cases hx with
    | tuple _ xs hs hf =>
      have hi : i < xs.size := by omega
      refine ⟨xs.getD i undef, fun w' => ?_, by rw [← h2]; exact hf i h1⟩
      simp [Instr.extract, hi, Sem.run, pure, Array.getD]
  | _ => cases h

theorem atypeAssert_ok {xt asserted : TypeId} {ok : Bool} {a v : AVal} {X : Value} (h : atypeAssert P a asserted ok = some v) (hx : Fit ρ R T w a X) :
    ∃ z, (Instr.typeAssert X xt asserted ok).run P w = .ok z w ∧ Fit ρ R T w v z := by
  have fail : ∀ {d : TypeDesc} (s dd : Option TypeId) (m : String), cond ok ((zeroT P asserted).map fun z => AVal.tuple [z, .bool false]) none = some v →
      ∃ z, ((if ok then (do pure (.tuple #[← zeroValue asserted, .bool false])) else runtimePanic (.typeAssertion s dd asserted m) : Sem Value)).run P w = .ok z w ∧ Fit ρ R T w v z := by
    intro d s dd m h
    cases ok with
    | false => cases h
    | true =>
      simp only [cond_true, Option.map_eq_some_iff] at h
      obtain ⟨z, hz, rfl⟩ := h
      obtain ⟨zz, z1, z2⟩ := run_zero hz w
      refine ⟨_, ?_, fit_pair (ofVal_ok ρ R T w 4 zz z z2) false⟩
      simp [z1, Sem.run, pure]
  have good : ∀ {b : AVal} {Y : Value}, Fit ρ R T w b Y → v = cond ok (.tuple [b, .bool true]) b → Fit ρ R T w v (if ok then .tuple #[Y, .bool true] else Y) := by
    intro b Y hb e
    subst e
    cases ok with
    | true => exact fit_pair hb true
    | false => exact hb
  unfold atypeAssert at h
  split at h
  · rename_i want t b hu
    cases hx with
    | iface _ _ Y hb =>
      cases hi : P.info? t with
      | none => rw [hi] at h; cases h
      | some i =>
        rw [hi] at h
        simp only at h
        cases hm : Instr.missingMethod want i.methods with
        | none =>
          rw [hm] at h
          simp only [Option.some.injEq] at h
          refine ⟨_, ?_, good (.iface t b Y hb) h.symm⟩
          simp [Instr.typeAssert, run_underlying hu, run_info hi, hm, Sem.run, pure]
        | some m =>
          rw [hm] at h
          obtain ⟨z, z1, z2⟩ := fail (d := .bool) none (some t) m h
          refine ⟨z, ?_, z2⟩
          simp only [Instr.typeAssert, Sem.run_bind, run_underlying hu, Result.andThen_ok, run_info hi, hm]
          exact z1
  · rename_i want hu
    cases hx
    obtain ⟨z, z1, z2⟩ := fail (d := .bool) none none "" h
    refine ⟨z, ?_, z2⟩
    simp only [Instr.typeAssert, Sem.run_bind, run_underlying hu, Result.andThen_ok]
    exact z1
  · rename_i d t b hni hu
    cases hx with
    | iface _ _ Y hb =>
      cases ht : (t == asserted) with
      | true =>
        rw [ht] at h
        simp only [cond_true, Option.some.injEq] at h
        have ht' : t = asserted := by simpa using ht
        subst ht'
        refine ⟨_, ?_, good hb h.symm⟩
        cases d <;> first
          | exact (hni _ rfl).elim
          | simp [Instr.typeAssert, run_underlying hu, Sem.run, pure]
      | false =>
        rw [ht, cond_false] at h
        have ht' : t ≠ asserted := by simpa using ht
        obtain ⟨z, z1, z2⟩ := fail (d := .bool) (some xt) (some t) "" h
        refine ⟨z, ?_, z2⟩
        cases d <;> first
          | exact (hni _ rfl).elim
          | (simp only [Instr.typeAssert, Sem.run_bind, run_underlying hu, Result.andThen_ok, if_neg ht']; exact z1)
  · rename_i d hni hu
    cases hx
    obtain ⟨z, z1, z2⟩ := fail (d := .bool) (some xt) none "" h
    refine ⟨z, ?_, z2⟩
    cases d <;> first
      | exact (hni _ rfl).elim
      | (simp only [Instr.typeAssert, Sem.run_bind, run_underlying hu, Result.andThen_ok]; exact z1)
  · cases h
  · cases h

/-! ### methods -/
inductive FitP (ρ : Loc) (R T : Nat → Prop) (w : World) : APlace → Place → Prop
  | val {v : AVal} {x : Value} (h : Fit ρ R T w v x) : FitP ρ R T w (.val v) (.val x)
  | var {v : AVal} {a : Addr} (h : Fit ρ R T w v (.pointer (some a))) : FitP ρ R T w (.var v) (.var a)

theorem aget_ok {Res : Nat → Prop} {st : St} (hg : Good ρ Res T st w) {t : TypeId} {p : APlace} {q : Place} {v : AVal} (h : p.get P t st = some v) (hp : FitP ρ (Rs ρ st.heap Res) T w p q) :
    ∃ z, (q.get t).run P w = .ok z w ∧ Fit ρ (Rs ρ st.heap Res) T w v z := by
  cases hp with
  | val hp =>
    simp only [APlace.get, Option.some.injEq] at h
    subst h
    exact ⟨_, rfl, hp⟩
  | var hp =>
    obtain ⟨a, y, e, h1, h2⟩ := aload_ok hg h hp
    cases e
    exact ⟨y, h1, h2⟩

theorem afollow_ok {Res : Nat → Prop} {st : St} (hg : Good ρ Res T st w) : ∀ {l : List FieldStep} {t t' : TypeId} {p p' : APlace} {q : Place}, afollow P st l t p = some (t', p') → FitP ρ (Rs ρ st.heap Res) T w p q →
    ∃ q', (follow l t q).run P w = .ok (t', q') w ∧ FitP ρ (Rs ρ st.heap Res) T w p' q'
  | [], t, t', p, p', q, h, hp => by
    simp only [afollow, Option.some.injEq, Prod.mk.injEq] at h
    obtain ⟨rfl, rfl⟩ := h
    exact ⟨q, rfl, hp⟩
  | s :: rest, t, t', p, p', q, h, hp => by
    simp only [afollow] at h
    cases hu : P.underlying s.struct with
    | none => rw [hu] at h; cases h
    | some d =>
      rw [hu] at h
      cases d with
      | struct fields =>
        simp only at h
        cases hi : fields[s.index]? with
        | none => rw [hi] at h; cases h
        | some f =>
          rw [hi] at h
          simp only at h
          cases hd : s.deref with
          | true =>
            rw [hd, cond_true] at h
            cases h1 : p.get P t st with
            | none => rw [h1] at h; cases h
            | some v =>
              rw [h1] at h
              obtain ⟨z, z1, z2⟩ := aget_ok hg h1 hp
              cases v with
              | ptr b inc ver off =>
                simp only at h
                cases h2 : afieldAddr P s.struct (.ptr b inc ver off) s.index with
                | none => rw [h2] at h; cases h
                | some a =>
                  rw [h2] at h
                  obtain ⟨a0, fs, fd, a', e1, e2, e3, e4, e5⟩ := afieldAddr_ok h2 z2
                  subst e1
                  rw [hu] at e2; cases e2
                  rw [hi] at e3; cases e3
                  obtain ⟨q', r1, r2⟩ := afollow_ok hg h (.var e5)
                  refine ⟨q', ?_, r2⟩
                  simp only [follow, Sem.run_bind, run_underlying hu, Result.andThen_ok, hi, hd, if_true, z1, asAddr, Sem.run_pure, e4]
                  exact r1
              | _ => cases h
          | false =>
            rw [hd, cond_false] at h
            cases hp with
            | var hp =>
              rename_i v a
              cases v with
              | ptr b inc ver off =>
                simp only at h
                cases h2 : afieldAddr P s.struct (.ptr b inc ver off) s.index with
                | none => rw [h2] at h; cases h
                | some a =>
                  rw [h2] at h
                  obtain ⟨a0, fs, fd, a', e1, e2, e3, e4, e5⟩ := afieldAddr_ok h2 hp
                  cases e1
                  rw [hu] at e2; cases e2
                  rw [hi] at e3; cases e3
                  obtain ⟨q', r1, r2⟩ := afollow_ok hg h (.var e5)
                  refine ⟨q', ?_, r2⟩
                  simp only [follow, Sem.run_bind, run_underlying hu, Result.andThen_ok, hi, hd, Bool.false_eq_true, if_false, e4]
                  exact r1
              | _ => cases h
            | val hp =>
              rename_i v x
              cases v with
              | agg cs =>
                simp only at h
                cases h2 : apart P f.type cs f.offset with
                | none => rw [h2] at h; cases h
                | some u =>
                  rw [h2] at h
                  cases hp with
                  | agg _ xs hs hf =>
                    obtain ⟨y, y1, y2⟩ := apart_ok h2 hs hf
                    obtain ⟨q', r1, r2⟩ := afollow_ok hg h (.val y2)
                    refine ⟨q', ?_, r2⟩
                    simp only [follow, Sem.run_bind, run_underlying hu, Result.andThen_ok, hi, hd, Bool.false_eq_true, if_false, y1]
                    exact r1
              | _ => cases h
      | _ => cases h

theorem areceiver_ok {Res : Nat → Prop} {st : St} (hg : Good ρ Res T st w) {t : TypeId} {p : APlace} {q : Place} {pr : Bool} {v : AVal} (h : areceiver P st t p pr = some v) (hp : FitP ρ (Rs ρ st.heap Res) T w p q) (wr : Option String) :
    ∃ z, (receiverAt t q pr wr).run P w = .ok z w ∧ Fit ρ (Rs ρ st.heap Res) T w v z := by
  unfold areceiver at h
  generalize hpp : p = p0 at *
  split at h
  · rename_i e hu
    obtain ⟨z, z1, z2⟩ := aget_ok hg h hp
    refine ⟨z, ?_, z2⟩
    simp only [receiverAt, Sem.run_bind, run_underlying hu, Result.andThen_ok]
    exact z1
  · rename_i e hu
    cases h1 : APlace.get P t st p with
    | none => rw [← hpp, h1] at h; cases h
    | some u =>
      rw [← hpp, h1] at h
      obtain ⟨z, z1, z2⟩ := aget_ok hg h1 (hpp ▸ hp)
      cases u with
      | ptr b inc ver off =>
        obtain ⟨a, y, e1, e2, e3⟩ := aload_ok hg h z2
        subst e1
        refine ⟨y, ?_, e3⟩
        cases wr with
        | none =>
          simp only [receiverAt, Sem.run_bind, run_underlying hu, Result.andThen_ok, z1, Sem.run_pure, asAddr]
          exact e2
        | some nm =>
          have hchk : (Builtin.ssaWrapNilChk_ #[t] t #[.pointer (some a), strVal "", strVal nm]).run P w = .ok (.pointer (some a)) w := rfl
          simp only [receiverAt, Sem.run_bind, run_underlying hu, Result.andThen_ok, z1, hchk, Sem.run_pure, asAddr]
          exact e2
      | _ => cases h
  · rename_i d a hn hu
    simp only [Option.some.injEq] at h
    subst h
    cases hp with
    | var hp =>
      refine ⟨_, ?_, hp⟩
      cases d <;> first
        | exact (hn _ rfl).elim
        | (simp only [receiverAt, Sem.run_bind, run_underlying hu, Result.andThen_ok]; rfl)
  · rename_i d hn hu
    obtain ⟨z, z1, z2⟩ := aget_ok hg h hp
    refine ⟨z, ?_, z2⟩
    cases d <;> first
      | exact (hn _ rfl).elim
      | (cases q <;> (simp only [receiverAt, Sem.run_bind, run_underlying hu, Result.andThen_ok]; exact z1))
  · cases h

theorem amethod_ok {Res : Nat → Prop} {st : St} (hg : Good ρ Res T st w) {t : TypeId} {a r : AVal} {X : Value} {name : String} {f : FuncId} (h : amethod P st t a name = some (f, r)) (hx : Fit ρ (Rs ρ st.heap Res) T w a X) (n : Nat) :
    ∃ z, (method (n + 1) t X name).run P w = .ok (f, z) w ∧ Fit ρ (Rs ρ st.heap Res) T w r z := by
  unfold amethod at h
  cases hi : P.info? t with
  | none => rw [hi] at h; cases h
  | some i =>
    rw [hi] at h
    simp only at h
    cases hm : i.methods.find? (·.name == name) with
    | none => rw [hm] at h; cases h
    | some m =>
      rw [hm] at h
      simp only at h
      cases hf : afollow P st m.path.toList t (.val a) with
      | none => rw [hf] at h; cases h
      | some q =>
        obtain ⟨xt, p⟩ := q
        rw [hf] at h
        simp only at h
        obtain ⟨q', r1, r2⟩ := afollow_ok hg hf (.val hx)
        cases hmf : m.func with
        | none => rw [hmf] at h; cases h
        | some fp =>
          obtain ⟨g, pr⟩ := fp
          rw [hmf] at h
          simp only at h
          cases hr : areceiver P st xt p pr with
          | none => rw [hr] at h; cases h
          | some rv =>
            rw [hr] at h
            simp only [Option.some.injEq, Prod.mk.injEq] at h
            obtain ⟨rfl, rfl⟩ := h
            obtain ⟨z, z1, z2⟩ := areceiver_ok hg hr r2 (if m.path.isEmpty then some ((name.splitOn ".").getLastD name) else none)
            refine ⟨z, ?_, z2⟩
            simp only [method, Sem.run_bind, run_info hi, Result.andThen_ok, hm, r1, hmf, z1, Sem.run_pure]

end Go.Ax
