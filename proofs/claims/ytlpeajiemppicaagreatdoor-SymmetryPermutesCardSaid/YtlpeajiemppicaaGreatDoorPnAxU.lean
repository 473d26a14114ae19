/- Each abstract operation stands for the model's: the binary and unary operators, conversions, min and max, len, type assertions. -/
import Derived.Test.YtlpeajiemppicaaGreatDoorPnAxT
namespace Go.Ax
set_option linter.unusedVariables false
set_option linter.unusedSimpArgs false

variable {P : Program} {pol : Pol} {ρ : Loc} {R T : Nat → Prop} {w : World}

def notNum : Value → Bool
  | .int .. | .float .. | .complex .. | .string _ => false
  | _ => true

theorem binOp_eql {t : TypeId} {X Y : Value} (h : notNum X = true) : binOp .eql t X Y = (do pure (.bool (← Op.equal t X Y))) := by
  cases X <;> first
    | (simp [notNum] at h; done)
    | (cases Y <;> rfl)

theorem binOp_neq {t : TypeId} {X Y : Value} (h : notNum X = true) : binOp .neq t X Y = (do pure (.bool (!(← Op.equal t X Y)))) := by
  cases X <;> first
    | (simp [notNum] at h; done)
    | (cases Y <;> rfl)

theorem aeq_int_left {d : Nat} {t : TypeId} {k : IntKind} {i : Int} {b : AVal} {r : Bool} (h : aeq P d t (.int k i) b = some r) : ∃ k' j, b = .int k' j := by
  cases d with
  | zero => cases h
  | succ d =>
    simp only [aeq] at h
    cases hu : P.underlying t with
    | none => rw [hu] at h; simp at h
    | some desc =>
      rw [hu] at h
      cases desc <;> cases b <;> simp at h
      exact ⟨_, _, rfl⟩

theorem aeq_str_left {d : Nat} {t : TypeId} {s : List Nat} {b : AVal} {r : Bool} (h : aeq P d t (.str s) b = some r) : ∃ u, b = .str u := by
  cases d with
  | zero => cases h
  | succ d =>
    simp only [aeq] at h
    cases hu : P.underlying t with
    | none => rw [hu] at h; simp at h
    | some desc =>
      rw [hu] at h
      cases desc <;> cases b <;> simp at h
      exact ⟨_, rfl⟩

theorem fit_notNum {a : AVal} {X : Value} (h : Fit ρ R T w a X) (h1 : ∀ k i, a ≠ .int k i) (h2 : ∀ s, a ≠ .str s) : notNum X = true := by
  cases h <;> first
    | rfl
    | exact absurd rfl (h1 _ _)
    | exact absurd rfl (h2 _)

/-- The guard lets by whatever is not a pair of nil interfaces or of structs. -/
def guardFree : Value → Value → Bool
  | .nilIface, .nilIface => false
  | .agg _, .agg _ => false
  | _, _ => true

theorem run_guard_not {op : BinOp} {t : TypeId} {xo yo : Operand} {X Y : Value} (h1 : op ≠ .eql) (h2 : op ≠ .neq) (w : World) : (eqGuard op t xo yo X Y).run P w = .ok () w := by
  unfold eqGuard
  cases op <;> first
    | exact absurd rfl h1
    | exact absurd rfl h2
    | rfl

theorem run_guard_free {op : BinOp} {t : TypeId} {xo yo : Operand} {X Y : Value} (h : guardFree X Y = true) (w : World) : (eqGuard op t xo yo X Y).run P w = .ok () w := by
  by_cases h1 : op = .eql
  · subst h1
    cases X <;> first
      | rfl
      | (cases Y <;> first | rfl | (simp [guardFree] at h; done))
  · by_cases h2 : op = .neq
    · subst h2
      cases X <;> first
        | rfl
        | (cases Y <;> first | rfl | (simp [guardFree] at h; done))
    · exact run_guard_not h1 h2 w

theorem run_guard_const {op : BinOp} {t : TypeId} {xo yo : Operand} (h : (isConstOp xo || isConstOp yo) = true) (w : World) : (eqGuard op t xo yo .nilIface .nilIface).run P w = .ok () w := by
  by_cases h1 : op = .eql
  · subst h1
    cases xo <;> cases yo <;> first
      | rfl
      | (simp [isConstOp] at h; done)
  · by_cases h2 : op = .neq
    · subst h2
      cases xo <;> cases yo <;> first
        | rfl
        | (simp [isConstOp] at h; done)
    · exact run_guard_not h1 h2 w

theorem nilTest_spec {t : TypeId} {yo : Operand} {c r : Bool} {v : AVal} (h : nilTest P t yo c r = some v) : ∃ e, P.underlying t = some (.slice e) ∧ yo = .const (.slice none 0 0) ∧ c = true ∧ v = .bool r := by
  unfold nilTest at h
  split at h
  · rename_i e hu
    cases hn : isNilSl yo with
    | false => rw [hn] at h; cases h
    | true =>
      cases c with
      | false => rw [hn] at h; cases h
      | true =>
        rw [hn] at h
        cases h
        refine ⟨e, hu, ?_, rfl, rfl⟩
        unfold isNilSl at hn
        split at hn
        · rfl
        · cases hn
  · cases h

theorem run_equalIn_nil {t e : TypeId} (hu : P.underlying t = some (.slice e)) (a : Addr) (l c : Nat) (w' : World) (D : Nat) : (Op.equalIn (D + 1) t (.slice (some a) l c) (.slice none 0 0)).run P w' = .ok false w' := by
  simp [Op.equalIn, run_underlying hu, Sem.run, pure]
theorem run_eq_nil {t e : TypeId} (hu : P.underlying t = some (.slice e)) (a : Addr) (l c : Nat) (w' : World) : (Op.equal t (.slice (some a) l c) (.slice none 0 0)).run P w' = .ok false w' := run_equalIn_nil hu a l c w' 9999

theorem abin_ok {op : BinOp} {t : TypeId} {xo yo : Operand} {a b v : AVal} {X Y : Value} (hyo : ∀ u, yo = .const u → Y = u) (h : abin P op t xo yo a b = some v) (hx : Fit ρ R T w a X) (hy : Fit ρ R T w b Y) :
    ∃ z, (∀ w', (eqGuard op t xo yo X Y).run P w' = .ok () w') ∧ (∀ w', (binOp op t X Y).run P w' = .ok z w') ∧ Fit ρ R T w v z := by
  have gfree : ∀ k i, X = .int k i → guardFree X Y = true := fun k i e => by subst e; cases Y <;> rfl
  have gfree' : ∀ s, X = .string s → guardFree X Y = true := fun s e => by subst e; cases Y <;> rfl
  have eqs : ∀ {d : Nat} {r : Bool}, d ≤ 10000 → aeq P d t a b = some r → ∀ w', (Op.equal t X Y).run P w' = .ok r w' := fun hd he w' => aeq_ok he hx hy 10000 hd w'
  unfold abin at h
  split at h
  · cases hx; cases hy
    obtain ⟨z, h1, h2⟩ := ashift_ok (ρ := ρ) (R := R) (T := T) (w := w) h t
    exact ⟨z, fun w' => run_guard_free (gfree _ _ rfl) w', h1, h2⟩
  · cases hx; cases hy
    obtain ⟨z, h1, h2⟩ := ashift_ok (ρ := ρ) (R := R) (T := T) (w := w) h t
    exact ⟨z, fun w' => run_guard_free (gfree _ _ rfl) w', h1, h2⟩
  · rename_i op k a k' b hn1 hn2
    cases hk : (k == k') with
    | false => rw [hk] at h; cases h
    | true =>
      rw [hk, cond_true] at h
      have hk' : k = k' := by simpa using hk
      subst hk'
      cases hx; cases hy
      obtain ⟨z, h1, h2⟩ := abinInt_ok (ρ := ρ) (R := R) (T := T) (w := w) h t
      exact ⟨z, fun w' => run_guard_free (gfree _ _ rfl) w', h1, h2⟩
  · rename_i op sa sb
    generalize hsa : sa = sa' at *
    cases hx with
    | str s1 => cases hy with
      | str s2 =>
        obtain ⟨z, h1, h2⟩ := abinStr_ok (ρ := ρ) (R := R) (T := T) (w := w) h rfl rfl t
        exact ⟨z, fun w' => run_guard_free (gfree' _ rfl) w', h1, h2⟩
  · cases hc : (isConstOp xo || isConstOp yo) with
    | false => rw [hc] at h; cases h
    | true =>
      rw [hc] at h
      simp only [cond_true, Option.map_eq_some_iff] at h
      obtain ⟨r, hr, rfl⟩ := h
      cases hx; cases hy
      refine ⟨_, fun w' => run_guard_const hc w', fun w' => ?_, .bool r⟩
      rw [binOp_eql rfl]; simp [eqs (by omega) hr, Sem.run, pure]
  · cases hc : (isConstOp xo || isConstOp yo) with
    | false => rw [hc] at h; cases h
    | true =>
      rw [hc] at h
      simp only [cond_true, Option.map_eq_some_iff] at h
      obtain ⟨r, hr, rfl⟩ := h
      cases hx; cases hy
      refine ⟨_, fun w' => run_guard_const hc w', fun w' => ?_, .bool (!r)⟩
      rw [binOp_neq rfl]; simp [eqs (by omega) hr, Sem.run, pure]
  · obtain ⟨e, hu, rfl, hc, rfl⟩ := nilTest_spec h
    obtain rfl := hyo _ rfl
    cases hx with
    | fsl tn cxb len cells A cap vs h1 h2 h3 h4 h5 h6 =>
      obtain ⟨a, rfl⟩ := h3 (by simpa using hc)
      exact ⟨_, fun w' => run_guard_free (by cases hy <;> rfl) w', fun w' => by rw [binOp_eql rfl]; simp [run_eq_nil hu, Sem.run, pure], .bool _⟩
  · obtain ⟨e, hu, rfl, hc, rfl⟩ := nilTest_spec h
    obtain rfl := hyo _ rfl
    cases hx with
    | fsl tn cxb len cells A cap vs h1 h2 h3 h4 h5 h6 =>
      obtain ⟨a, rfl⟩ := h3 (by simpa using hc)
      exact ⟨_, fun w' => run_guard_free (by cases hy <;> rfl) w', fun w' => by rw [binOp_neq rfl]; simp [run_eq_nil hu, Sem.run, pure], .bool _⟩
  · obtain ⟨e, hu, rfl, hc, rfl⟩ := nilTest_spec h
    obtain rfl := hyo _ rfl
    cases hx
    exact ⟨_, fun w' => run_guard_free rfl w', fun w' => by rw [binOp_eql rfl]; simp [run_eq_nil hu, Sem.run, pure], .bool _⟩
  · obtain ⟨e, hu, rfl, hc, rfl⟩ := nilTest_spec h
    obtain rfl := hyo _ rfl
    cases hx
    exact ⟨_, fun w' => run_guard_free rfl w', fun w' => by rw [binOp_neq rfl]; simp [run_eq_nil hu, Sem.run, pure], .bool _⟩
  · cases hc : P.eqGuardType P.depth t with
    | true => rw [hc] at h; cases h
    | false =>
      rw [hc] at h
      simp only [cond_false, Option.map_eq_some_iff] at h
      obtain ⟨r, hr, rfl⟩ := h
      cases hx with
      | agg _ X hX fX => cases hy with
        | agg _ Y hY fY =>
          refine ⟨_, fun w' => run_eqGuard_agg w' .eql t xo yo X Y hc, fun w' => ?_, .bool r⟩
          rw [binOp_eql rfl]; simp [eqs (by omega) hr, Sem.run, pure]
  · cases hc : P.eqGuardType P.depth t with
    | true => rw [hc] at h; cases h
    | false =>
      rw [hc] at h
      simp only [cond_false, Option.map_eq_some_iff] at h
      obtain ⟨r, hr, rfl⟩ := h
      cases hx with
      | agg _ X hX fX => cases hy with
        | agg _ Y hY fY =>
          refine ⟨_, fun w' => run_eqGuard_agg w' .neq t xo yo X Y hc, fun w' => ?_, .bool (!r)⟩
          rw [binOp_neq rfl]; simp [eqs (by omega) hr, Sem.run, pure]
  · rename_i n1 n2 n3 n5 n6 n4
    simp only [Option.map_eq_some_iff] at h
    obtain ⟨r, hr, rfl⟩ := h
    have h1 : ∀ k i, a ≠ .int k i := fun k i e => by
      subst e
      obtain ⟨k', j, rfl⟩ := aeq_int_left hr
      exact n1 _ _ _ _ rfl rfl
    have h2 : ∀ s, a ≠ .str s := fun s e => by
      subst e
      obtain ⟨u, rfl⟩ := aeq_str_left hr
      exact n2 _ _ rfl rfl
    refine ⟨_, fun w' => run_guard_free ?_ w', fun w' => ?_, .bool r⟩
    · cases hx <;> cases hy <;> first
        | rfl
        | exact (n3 rfl rfl).elim
        | exact (n4 _ _ rfl rfl).elim
    · rw [binOp_eql (fit_notNum hx h1 h2)]; simp [eqs (by omega) hr, Sem.run, pure]
  · rename_i n1 n2 n3 n5 n6 n4
    simp only [Option.map_eq_some_iff] at h
    obtain ⟨r, hr, rfl⟩ := h
    have h1 : ∀ k i, a ≠ .int k i := fun k i e => by
      subst e
      obtain ⟨k', j, rfl⟩ := aeq_int_left hr
      exact n1 _ _ _ _ rfl rfl
    have h2 : ∀ s, a ≠ .str s := fun s e => by
      subst e
      obtain ⟨u, rfl⟩ := aeq_str_left hr
      exact n2 _ _ rfl rfl
    refine ⟨_, fun w' => run_guard_free ?_ w', fun w' => ?_, .bool (!r)⟩
    · cases hx <;> cases hy <;> first
        | rfl
        | exact (n3 rfl rfl).elim
        | exact (n4 _ _ rfl rfl).elim
    · rw [binOp_neq (fit_notNum hx h1 h2)]; simp [eqs (by omega) hr, Sem.run, pure]
  · cases h

theorem aun_ok {op : UnOp} {a v : AVal} {X : Value} (h : aun op a = some v) (hx : Fit ρ R T w a X) : ∃ z, (∀ w', (Op.unary op X).run P w' = .ok z w') ∧ Fit ρ R T w v z := by
  unfold aun at h
  split at h
  · cases hx
    simp only [abinInt, Option.some.injEq] at h; subst h
    refine ⟨_, fun w' => ?_, .int _ _⟩
    simp [Op.unary, Op.intArith, Sem.run, pure]
  · cases hx
    simp only [abinInt, Option.some.injEq] at h; subst h
    refine ⟨_, fun w' => ?_, .int _ _⟩
    simp [Op.unary, Op.intBits, Sem.run, pure]
  · cases hx
    simp only [Option.some.injEq] at h; subst h
    refine ⟨_, fun w' => ?_, .bool _⟩
    simp [Op.unary, Sem.run, pure]
  · cases h

end Go.Ax
