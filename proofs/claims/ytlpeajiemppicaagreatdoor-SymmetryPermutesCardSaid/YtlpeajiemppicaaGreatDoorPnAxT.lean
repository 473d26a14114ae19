/- Each abstract operation stands for the model's: arithmetic, strings, equality. -/
import Derived.Test.YtlpeajiemppicaaGreatDoorPnAxS
import Derived.Laws.StructEq
namespace Go.Ax
set_option linter.unusedVariables false
set_option linter.unusedSimpArgs false

variable {P : Program} {pol : Pol} {ρ : Loc} {R T : Nat → Prop} {w : World}

theorem abinInt_ok {op : BinOp} {k : IntKind} {a b : Int} {v : AVal} (h : abinInt op k a b = some v) (t : TypeId) : ∃ z, (∀ w, (binOp op t (.int k a) (.int k b)).run P w = .ok z w) ∧ Fit ρ R T w v z := by
  cases op <;> simp only [abinInt, Option.some.injEq, reduceCtorEq] at h
  case quo =>
    cases hb : (b == 0) with
    | true => rw [hb] at h; cases h
    | false =>
      rw [hb] at h
      simp only [cond_false, Option.some.injEq] at h
      subst h
      have hb' : b ≠ 0 := by simpa using hb
      refine ⟨_, fun w => ?_, .int _ _⟩
      simp [binOp, Op.intDiv, hb', Sem.run, pure]
  case rem =>
    cases hb : (b == 0) with
    | true => rw [hb] at h; cases h
    | false =>
      rw [hb] at h
      simp only [cond_false, Option.some.injEq] at h
      subst h
      have hb' : b ≠ 0 := by simpa using hb
      refine ⟨_, fun w => ?_, .int _ _⟩
      simp [binOp, Op.intDiv, hb', Sem.run, pure]
  all_goals
    subst h
    first
      | (refine ⟨_, fun w => ?_, .int _ _⟩; simp [binOp, Op.intArith, Op.intBits, Op.intCmp, Sem.run, pure])
      | (refine ⟨_, fun w => ?_, .bool _⟩; simp [binOp, Op.intArith, Op.intBits, Op.intCmp, Sem.run, pure])

theorem ashift_ok {op : BinOp} {k k' : IntKind} {a b : Int} {v : AVal} (h : ashift op k a b = some v) (t : TypeId) : ∃ z, (∀ w, (binOp op t (.int k a) (.int k' b)).run P w = .ok z w) ∧ Fit ρ R T w v z := by
  unfold ashift at h
  cases hb : decide (b < 0) with
  | true => rw [hb] at h; cases h
  | false =>
    rw [hb] at h
    simp only [decide_eq_false_iff_not] at hb
    cases op <;> simp only [cond_false, Option.some.injEq, reduceCtorEq] at h
    all_goals
      subst h
      refine ⟨_, fun w => ?_, .int _ _⟩
      simp [binOp, Op.shift, hb, Sem.run, pure]

theorem natsEq_map : ∀ x y : List UInt8, natsEq (x.map UInt8.toNat) (y.map UInt8.toNat) = (x == y)
  | [], [] => rfl
  | [], _ :: _ => rfl
  | _ :: _, [] => rfl
  | a :: x, b :: y => by
    simp only [List.map_cons, natsEq, natsEq_map x y, List.cons_beq_cons]
    by_cases h : a = b
    · subst h; simp
    · have : (a.toNat == b.toNat) = false := by simpa using fun e => h (UInt8.toNat_inj.1 e)
      have h2 : (a == b) = false := by simpa using h
      simp [this, h2]

theorem natsLess_map : ∀ x y : List UInt8, natsLess (x.map UInt8.toNat) (y.map UInt8.toNat) = Op.bytesLess x y
  | [], [] => rfl
  | [], _ :: _ => rfl
  | _ :: _, [] => rfl
  | a :: x, b :: y => by
    simp only [List.map_cons, natsLess, natsLess_map x y, Op.bytesLess]
    have h1 : (a.toNat == b.toNat) = (a == b) := by
      by_cases h : a = b
      · subst h; simp
      · have : (a.toNat == b.toNat) = false := by simpa using fun e => h (UInt8.toNat_inj.1 e)
        have h2 : (a == b) = false := by simpa using h
        rw [this, h2]
    have h3 : Nat.blt a.toNat b.toNat = decide (a < b) := by
      by_cases h : a < b
      · have : a.toNat < b.toNat := h
        simp [h, Nat.blt_eq, this]
      · have : ¬ a.toNat < b.toNat := h
        have h4 : Nat.blt a.toNat b.toNat = false := by
          cases h5 : Nat.blt a.toNat b.toNat with
          | false => rfl
          | true => exact absurd (by simpa using h5) this
        simp [h, h4]
    rw [h1, h3]

theorem abinStr_ok {op : BinOp} {a b : List Nat} {x y : ByteArray} {v : AVal} (h : abinStr op a b = some v) (ha : a = x.data.toList.map UInt8.toNat) (hb : b = y.data.toList.map UInt8.toNat) (t : TypeId) :
    ∃ z, (∀ w, (binOp op t (.string x) (.string y)).run P w = .ok z w) ∧ Fit ρ R T w v z := by
  subst ha; subst hb
  cases op <;> simp only [abinStr, Option.some.injEq, reduceCtorEq] at h
  case add =>
    cases hc : Nat.ble ((x.data.toList.map UInt8.toNat).length + (y.data.toList.map UInt8.toNat).length) 9223372036854775807 with
    | false => rw [hc] at h; cases h
    | true =>
      rw [hc] at h
      simp only [cond_true, Option.some.injEq] at h
      subst h
      have hle : x.size + y.size ≤ 9223372036854775807 := by
        have := Nat.le_of_ble_eq_true hc
        simpa using this
      have hn : ¬ (((x.size + y.size : Nat) : Int) > IntKind.i64.max) := by
        have : IntKind.i64.max = 9223372036854775807 := by decide
        rw [this]; omega
      refine ⟨.string (x ++ y), fun w => ?_, ?_⟩
      · simp only [binOp, Op.stringOp]
        rw [if_neg hn]; rfl
      · have : x.data.toList.map UInt8.toNat ++ y.data.toList.map UInt8.toNat = (x ++ y).data.toList.map UInt8.toNat := by simp
        rw [this]; exact .str _
  all_goals
    subst h
    exact ⟨_, fun w => by simp only [binOp, Op.stringOp, ByteArray.toList_eq, natsEq_map, natsLess_map]; rfl, .bool _⟩

/-! ### equality -/
theorem aeqFields_ok {f : TypeId → AVal → AVal → Option Bool} {D : Nat} (hf : ∀ t a b r, f t a b = some r → ∀ x y, Fit ρ R T w a x → Fit ρ R T w b y → ∀ w', (Op.equalIn D t x y).run P w' = .ok r w')
    {xs ys : List AVal} {X Y : Array Value} (hX : X.size = xs.length) (hY : Y.size = ys.length) (fX : ∀ j (h : j < xs.length), Fit ρ R T w xs[j] (X.getD j undef)) (fY : ∀ j (h : j < ys.length), Fit ρ R T w ys[j] (Y.getD j undef)) :
    ∀ {l : List Field} {r : Bool}, aeqFields f P xs ys l = some r → ∀ w', (Op.eqFields D X Y l).run P w' = .ok r w'
  | [], r, h, w' => by simp only [aeqFields, Option.some.injEq] at h; subst h; simp [Op.eqFields, Sem.run, pure]
  | fd :: l, r, h, w' => by
    simp only [aeqFields] at h
    cases hn : (fd.name == "_") with
    | true =>
      rw [hn] at h
      have hn' : fd.name = "_" := by simpa using hn
      simp only [Op.eqFields, hn', ne_eq, not_true_eq_false, if_false]
      exact aeqFields_ok hf hX hY fX fY h w'
    | false =>
      rw [hn, cond_false] at h
      have hn' : fd.name ≠ "_" := by simpa using hn
      cases h1 : apart P fd.type xs fd.offset with
      | none => rw [h1] at h; cases h
      | some a =>
        rw [h1] at h
        cases h2 : apart P fd.type ys fd.offset with
        | none => rw [h2] at h; cases h
        | some b =>
          rw [h2] at h
          simp only at h
          obtain ⟨x, p1, q1⟩ := apart_ok h1 hX fX
          obtain ⟨y, p2, q2⟩ := apart_ok h2 hY fY
          cases h3 : f fd.type a b with
          | none => rw [h3] at h; cases h
          | some s =>
            rw [h3] at h
            have h4 := hf _ _ _ _ h3 x y q1 q2
            cases s with
            | true =>
              simp only [Op.eqFields, hn', ne_eq, not_false_eq_true, if_true, Sem.run_bind, p1, p2, Result.andThen_ok, h4, Bool.not_true, Bool.false_eq_true, if_false]
              exact aeqFields_ok hf hX hY fX fY h w'
            | false =>
              simp only [Option.some.injEq] at h
              subst h
              simp [Op.eqFields, hn', p1, p2, h4, Sem.run, pure]

theorem aeqElems_ok {f : AVal → AVal → Option Bool} {D : Nat} {elem : TypeId} {n : Nat} (hf : ∀ a b r, f a b = some r → ∀ x y, Fit ρ R T w a x → Fit ρ R T w b y → ∀ w', (Op.equalIn D elem x y).run P w' = .ok r w')
    {xs ys : List AVal} {X Y : Array Value} (hX : X.size = xs.length) (hY : Y.size = ys.length) (fX : ∀ j (h : j < xs.length), Fit ρ R T w xs[j] (X.getD j undef)) (fY : ∀ j (h : j < ys.length), Fit ρ R T w ys[j] (Y.getD j undef)) :
    ∀ {l : List Nat} {r : Bool}, aeqElems f P elem n xs ys l = some r → ∀ w', ∃ s : Option Bool,
      (forIn l ((none, ()) : Option Bool × Unit) fun i _ => (do
          if (!(← Op.equalIn D elem (← part elem X (i * n)) (← part elem Y (i * n)))) = true then pure (.done (some false, ())) else pure (.yield (none, ())) : Sem (ForInStep (Option Bool × Unit)))).run P w' = .ok (s, ()) w' ∧
        ((s = none ∧ r = true) ∨ (s = some false ∧ r = false))
  | [], r, h, w' => by simp only [aeqElems, Option.some.injEq] at h; subst h; exact ⟨none, by simp [Sem.run, pure], .inl ⟨rfl, rfl⟩⟩
  | i :: l, r, h, w' => by
    simp only [aeqElems] at h
    cases h1 : apart P elem xs (i * n) with
    | none => rw [h1] at h; cases h
    | some a =>
      rw [h1] at h
      cases h2 : apart P elem ys (i * n) with
      | none => rw [h2] at h; cases h
      | some b =>
        rw [h2] at h
        simp only at h
        obtain ⟨x, p1, q1⟩ := apart_ok h1 hX fX
        obtain ⟨y, p2, q2⟩ := apart_ok h2 hY fY
        cases h3 : f a b with
        | none => rw [h3] at h; cases h
        | some s =>
          rw [h3] at h
          have h4 := hf _ _ _ h3 x y q1 q2
          cases s with
          | true =>
            obtain ⟨s, hs, hr⟩ := aeqElems_ok (n := n) hf hX hY fX fY (l := l) (r := r) h w'
            refine ⟨s, ?_, hr⟩
            simp only [List.forIn_cons, Sem.run_bind, p1, p2, Result.andThen_ok, h4, Bool.not_true, Bool.false_eq_true, if_false, Sem.run_pure]
            exact hs
          | false =>
            simp only [Option.some.injEq] at h
            subst h
            exact ⟨some false, by simp [p1, p2, h4, Sem.run, pure], .inr ⟨rfl, rfl⟩⟩

theorem aeq_ok : ∀ {d : Nat} {t : TypeId} {a b : AVal} {r : Bool}, aeq P d t a b = some r → ∀ {x y : Value}, Fit ρ R T w a x → Fit ρ R T w b y → ∀ D, d ≤ D → ∀ w', (Op.equalIn D t x y).run P w' = .ok r w' := by
  intro d
  induction d with
  | zero => intro t a b r h; cases h
  | succ d ih =>
    intro t a b r h x y hx hy D hD w'
    obtain ⟨D, rfl⟩ : ∃ E, D = E + 1 := ⟨D - 1, by omega⟩
    simp only [aeq] at h
    cases hu : P.underlying t with
    | none => rw [hu] at h; simp at h
    | some desc =>
      rw [hu] at h
      cases desc with
      | bool =>
        cases a <;> cases b <;> simp only [Option.some.injEq, reduceCtorEq] at h
        subst h
        cases hx; cases hy
        simp [Op.equalIn, run_underlying hu, Sem.run, pure]
      | int k =>
        cases a <;> cases b <;> simp only [reduceCtorEq] at h
        rename_i k1 i k2 j
        cases hk : (k1 == k2) with
        | false => rw [hk] at h; cases h
        | true =>
          rw [hk] at h
          simp only [cond_true, Option.some.injEq] at h
          subst h
          have hk' : k1 = k2 := by simpa using hk
          subst hk'
          cases hx; cases hy
          simp [Op.equalIn, run_underlying hu, Sem.run, pure]
      | string =>
        cases a <;> cases b <;> simp only [Option.some.injEq, reduceCtorEq] at h
        subst h
        cases hx with
        | str s => cases hy with
          | str u => rw [run_equalIn_string w' D t s u hu, ByteArray.toList_eq, ByteArray.toList_eq, natsEq_map]
      | pointer e =>
        cases a <;> cases b <;> simp only [Option.some.injEq, reduceCtorEq] at h
        all_goals
          subst h
          cases hx; cases hy
          simp [Op.equalIn, run_underlying hu, Sem.run, pure]
      | func ps rs va =>
        cases a <;> cases b <;> simp only [Option.some.injEq, reduceCtorEq] at h
        all_goals
          subst h
          cases hx; cases hy
          simp [Op.equalIn, run_underlying hu, Sem.run, pure]
      | interface ms =>
        cases a <;> cases b <;> simp only [Option.some.injEq, reduceCtorEq] at h
        case iface.iface tx vx ty vy =>
          cases hx with
          | iface _ _ X hx => cases hy with
            | iface _ _ Y hy =>
              cases ht : (tx == ty) with
              | false =>
                rw [ht] at h
                simp only [cond_false, Option.some.injEq] at h
                subst h
                have ht' : tx ≠ ty := by simpa using ht
                simp [Op.equalIn, run_underlying hu, Sem.run, pure, ht']
              | true =>
                rw [ht, cond_true] at h
                have ht' : tx = ty := by simpa using ht
                subst ht'
                cases hi : P.info? tx with
                | none => rw [hi] at h; cases h
                | some i =>
                  rw [hi] at h
                  simp only at h
                  cases hc : i.comparable with
                  | false => rw [hc] at h; cases h
                  | true =>
                    rw [hc, cond_true] at h
                    have := ih h hx hy D (by omega) w'
                    simp [Op.equalIn, run_underlying hu, run_info hi, hc, this]
        all_goals
          subst h
          cases hx; cases hy
          simp [Op.equalIn, run_underlying hu, Sem.run, pure]
      | struct fields =>
        cases a <;> cases b <;> simp only [reduceCtorEq] at h
        rename_i xs ys
        cases hs : P.stoodInHeld t with
        | true => rw [hs] at h; cases h
        | false =>
          rw [hs, cond_false] at h
          cases hx with
          | agg _ X hX fX => cases hy with
            | agg _ Y hY fY =>
              have hfo : P.fieldsOf t = fields := by simp [Program.fieldsOf, hu]
              rw [run_equalIn_struct w' D t X Y (by rw [hfo]; exact hu) hs, hfo]
              exact aeqFields_ok (fun t a b r h x y hx hy w'' => ih h hx hy D (by omega) w'') hX hY fX fY h w'
      | array len elem =>
        cases a <;> cases b <;> simp only [reduceCtorEq] at h
        rename_i xs ys
        cases hz : szT P elem with
        | none => rw [hz] at h; cases h
        | some n =>
          rw [hz] at h
          simp only at h
          cases hx with
          | agg _ X hX fX => cases hy with
            | agg _ Y hY fY =>
              obtain ⟨s, hs, hr⟩ := aeqElems_ok (n := n) (D := D) (elem := elem) (fun a b r h x y hx hy w'' => ih h hx hy D (by omega) w'') hX hY fX fY h w'
              simp only [Op.equalIn, Sem.run_bind, run_underlying hu, Result.andThen_ok, run_size hz]
              rw [Std.Legacy.Range.forIn_eq_forIn_range']
              simp only [Std.Legacy.Range.size, Nat.sub_zero, Nat.add_sub_cancel, Nat.div_one]
              rw [← List.range_eq_range', hs]
              rcases hr with ⟨rfl, rfl⟩ | ⟨rfl, rfl⟩ <;> simp [Sem.run, pure]
      | _ => cases a <;> cases b <;> simp at h

end Go.Ax
