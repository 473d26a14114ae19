/- Walks on open values: regions whose order is drawn, where every operation is quiet. -/
import Derived.Test.YtllnomkinmhpfaaGreatPnWaB
namespace Go.Ax
set_option linter.unusedVariables false
set_option linter.unusedSimpArgs false
variable {P : Program} {pol : Pol} {cx : Cx}

/-- From place i on, in listing order, every operation is quiet. -/
def QFrom (pol : Pol) (P : Program) (cx : Cx) (ops : Array Oper) (i : Nat) (env : Env) (st : St) (env1 : Env) : Prop :=
  ∃ n items, (∀ c0, adrawSeq (exec pol P n) pol cx P ops c0 [] i none (ops.toList.drop i) env st = some (items, env1, st)) ∧ items.map (fun x => (x.o, x.i)) = (ops.toList.drop i).zipIdx i ∧ items.all (fun x => !x.loud) = true

theorem QFrom.done {ops : Array Oper} {i : Nat} (h : ops.toList.drop i = []) (env : Env) (st : St) : QFrom pol P cx ops i env st env := ⟨0, [], fun c0 => by rw [h]; rfl, by rw [h]; rfl, rfl⟩

theorem QFrom.step {ops : Array Oper} {i : Nat} {o : Oper} (ho : opAt ops i = some o) (hd : dvar P i o = none) {env e1 e2 : Env} {st s1 : St} {v : AVal}
    (h : ∃ n, adraw1 (exec pol P n) pol cx P ops env st o = some (v, s1, false)) (ha : (o.after.all fun e => !Region.binds .any e || Nat.blt e.on i) = true) (hp : aput' cx.nt o.dst v env = some e1) (h2 : QFrom pol P cx ops (i + 1) e1 st e2) : QFrom pol P cx ops i env st e2 := by
  obtain ⟨n, h⟩ := h
  obtain ⟨m, items, h2, h3, h4⟩ := h2
  refine ⟨max n m, ⟨i, o, env, v, false, s1⟩ :: items, fun c0 => ?_, ?_, ?_⟩
  · rw [drop_opAt ho]
    have h5 := adraw1_mono (exec_le (pol := pol) (P := P) (Nat.le_max_left n m)) h
    have h6 := adrawSeq_mono (exec_le (pol := pol) (P := P) (Nat.le_max_right n m)) (h2 c0)
    simp only [adrawSeq, hd, h5, ha, cond_true, Bool.not_false, Bool.true_or, hp, h6, cond_false]
  · rw [drop_opAt ho]
    simp only [List.map_cons, List.zipIdx_cons, h3]
  · simp [h4]

theorem QFrom.one {ops : Array Oper} {i : Nat} {o : Oper} (ho : opAt ops i = some o) (hd : dvar P i o = none) {env e1 e2 : Env} {st s1 : St} {v : AVal} (hw : awanted ops (pickE (o.looksAt ops) env) o = some true)
    (h : ∃ n, aoper (exec pol P n) pol cx P (pickE (o.looksAt ops) env) st o = some (v, s1, false)) (ha : (o.after.all fun e => !Region.binds .any e || Nat.blt e.on i) = true) (hp : aput' cx.nt o.dst v env = some e1) (h2 : QFrom pol P cx ops (i + 1) e1 st e2) : QFrom pol P cx ops i env st e2 := by
  obtain ⟨n, h⟩ := h
  exact QFrom.step ho hd ⟨n, by unfold adraw1; rw [hw]; exact h⟩ ha hp h2

theorem QFrom.lit {ops : Array Oper} {i : Nat} {o : Oper} (ho : opAt ops i = some o) (hd : dvar P i o = none) {env e1 e2 : Env} {st s1 : St} {b c : Bool} (hw : awanted ops (pickE (o.looksAt ops) env) o = some true)
    (h : aoper (exec pol P 0) pol cx P (pickE (o.looksAt ops) env) st o = some (.bool b, s1, false)) (hb : b = c) (ha : (o.after.all fun e => !Region.binds .any e || Nat.blt e.on i) = true) (hp : aput' cx.nt o.dst (.bool c) env = some e1) (h2 : QFrom pol P cx ops (i + 1) e1 st e2) : QFrom pol P cx ops i env st e2 := by
  subst hb
  exact QFrom.one ho hd hw ⟨0, h⟩ ha hp h2

theorem QFrom.skip {ops : Array Oper} {i : Nat} {o : Oper} (ho : opAt ops i = some o) (hd : dvar P i o = none) {env e1 e2 : Env} {st : St} (hw : awanted ops (pickE (o.looksAt ops) env) o = some false)
    (ha : (o.after.all fun e => !Region.binds .any e || Nat.blt e.on i) = true) (hp : aput' cx.nt o.dst .undef env = some e1) (h2 : QFrom pol P cx ops (i + 1) e1 st e2) : QFrom pol P cx ops i env st e2 :=
  QFrom.step ho hd ⟨0, by unfold adraw1; rw [hw]⟩ ha hp h2

def apartP (ops : Array Oper) (x y : Oper × Nat) : Bool := apartOk ops ⟨x.2, x.1, [], .undef, false, St.init⟩ ⟨y.2, y.1, [], .undef, false, St.init⟩

def apartAll (ops : Array Oper) : Bool := ops.toList.zipIdx.all fun x => ops.toList.zipIdx.all fun y => apartP ops x y

def drawnRegion : Code → Bool
  | .region _ _ draw => draw
  | _ => false

theorem Run.draw {c : Code} (hc : drawnRegion c = true) {env e1 : Env} {st st' : St} (hv : (dvars P 0 (opsOf c).toList).isEmpty = true) (hap : apartAll (opsOf c) = true) (hs : st' = { st with clock := st.clock + (opsOf c).size }) (h : QFrom pol P cx (opsOf c) 0 env st' e1) : Run pol P cx c env st .norm e1 st' := by
  cases c with
  | region id ops draw =>
    cases draw with
    | false => cases hc
    | true =>
      obtain ⟨n, items, h1, h2, h3⟩ := h
      subst hs
      refine ⟨n + 1, e1, ?_, EnvLe.refl _⟩
      show acode (exec pol P n) pol P (.region id ops true) cx env st = _
      unfold acode
      have hv0 : dvars P 0 ops.toList = [] := List.isEmpty_iff.1 hv
      have hd : adraw (exec pol P n) pol cx P ops env st = some (e1, { st with clock := st.clock + ops.size }) := by
        unfold adraw
        have h1' := h1 st.clock
        simp only [opsOf, List.drop_zero] at h1' h2
        rw [hv0]
        simp only [layVars, h1']
        have h4 : (items.all fun x => items.all fun y => apartOk ops x y) = true := by
          simp only [apartAll, List.all_eq_true] at hap
          simp only [opsOf] at hap
          have hm : ∀ x ∈ items, (x.o, x.i) ∈ ops.toList.zipIdx := fun x hx => by
            rw [← h2]
            exact List.mem_map.2 ⟨x, hx, rfl⟩
          exact List.all_eq_true.2 fun x hx => List.all_eq_true.2 fun y hy => hap _ (hm x hx) _ (hm y hy)
        have h5 : (items.any (·.loud) || !([] : List DVar).isEmpty) = false := by
          simp only [List.isEmpty_nil, Bool.not_true, Bool.or_false]
          simp only [List.all_eq_true, Bool.not_eq_true'] at h3
          simpa using h3
        rw [h4, h5]
        rfl
      simp only [cond_true, hd, opsOf]
  | _ => cases hc
end Go.Ax
