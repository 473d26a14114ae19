/- Arguments from outside: the shape of what a row reads, and that it fits its abstract value. -/
import Derived.Test.YtllnomkinmhpfaaGreatPnWaC
namespace Go.Ax
set_option linter.unusedVariables false
set_option linter.unusedSimpArgs false
variable {P : Program} {pol : Pol} {w : World}

/-- The shape of a reading at a type of booleans, integers, strings, slices, structs. -/
def ShapeD {H : Type} (P : Program) : Nat → TypeId → DataW H → Prop
  | 0, _, _ => False
  | n + 1, t, d => match P.underlying t with
    | some .bool => ∃ b, d = .lit (.bool b)
    | some (.int k) => ∃ i, d = .lit (.int k i) ∧ (Lit.int k i).wf = true
    | some .string => ∃ s, d = .lit (.string s)
    | some (.slice e) => d = .nil ∨ ∃ es sp, d = .slice es sp ∧ ∀ x ∈ es, ShapeD P n e x
    | some (.struct fs) => ∃ ps, d = .agg ps ∧ ps.length = fs.size ∧ ∀ (j : Nat) f x, fs[j]? = some f → ps[j]? = some x → ShapeD P n f.type x
    | _ => False

theorem trod_shape {H : Type} {enc : TypeId × Value → H} {base : Nat} {spare : Nat → Bool} {held : Bool} (hsp : ∀ b, spare b = true) :
    ∀ (n : Nat) {t : TypeId}, plainT P n t = true → ∀ (fuel : Nat) {cs : List Value} {d : DataW H} {ps : List MemPlace}, DataW.trod enc P w base spare held fuel t cs = some (d, ps) → ShapeD P n t d
  | 0, t, h, _, _, _, _, _ => by cases h
  | n + 1, t, h, 0, _, _, _, hd => by cases hd
  | n + 1, t, h, fuel + 1, cs, d, ps, hd => by
    simp only [plainT] at h
    have hd0 := hd
    simp only [DataW.trod] at hd
    simp only [ShapeD]
    cases hu : P.underlying t with
    | none => rw [hu] at h; cases h
    | some td =>
      rw [hu] at h
      simp only [hu] at hd
      cases td with
      | bool =>
        rcases cs with _ | ⟨v, _ | ⟨u, r⟩⟩
        · simp at hd
        · cases v <;> simp at hd
          obtain ⟨rfl, rfl⟩ := hd
          exact ⟨_, rfl⟩
        · cases v <;> simp at hd
      | int k =>
        rcases cs with _ | ⟨v, _ | ⟨u, r⟩⟩
        · simp at hd
        · cases v <;> simp at hd
          obtain ⟨⟨rfl, hh⟩, rfl, rfl⟩ := hd
          exact ⟨_, rfl, hh⟩
        · cases v <;> simp at hd
      | string =>
        rcases cs with _ | ⟨v, _ | ⟨u, r⟩⟩
        · simp at hd
        · cases v <;> simp at hd
          obtain ⟨_, rfl, rfl⟩ := hd
          exact ⟨_, rfl⟩
        · cases v <;> simp at hd
      | struct fs =>
        simp only [Bool.and_eq_true, List.all_eq_true] at h
        obtain ⟨h1, h2⟩ := h
        obtain ⟨xs, hx0, hcl, hm⟩ := trod_struct' hu hd0
        cases hx0
        obtain ⟨m1, m2⟩ := mapM_opt hm
        refine ⟨_, rfl, by simpa using m1, fun j f x hj hx => ?_⟩
        rw [List.getElem?_map] at hx
        cases hxj : xs[j]? with
        | none => rw [hxj] at hx; cases hx
        | some y =>
          rw [hxj] at hx
          simp only [Option.map_some, Option.some.injEq] at hx
          subst hx
          have hjl : fs.toList[j]? = some f := by simpa using hj
          have := m2 j f y hjl hxj
          exact trod_shape hsp n (h2 f (List.mem_of_getElem? hjl)) fuel (d := y.1) (ps := y.2) this
      | slice e =>
        simp only [Bool.and_eq_true, beq_iff_eq] at h
        obtain ⟨h1, h2⟩ := h
        rcases cs with _ | ⟨v, _ | ⟨u, r⟩⟩
        · simp at hd
        · cases v <;> try (simp at hd; done)
          rename_i A len cap
          cases A with
          | none =>
            cases len with
            | succ => simp at hd
            | zero =>
              cases cap with
              | succ => simp at hd
              | zero =>
                simp only [Option.some.injEq, Prod.mk.injEq] at hd
                obtain ⟨rfl, rfl⟩ := hd
                exact .inl rfl
          | some a =>
            simp only at hd
            split at hd
            · rename_i hcond
              generalize hel : (fun i : Nat => (w.cells? base (a.add (i * P.cellsOf e)) (P.cellsOf e)).bind (DataW.trod enc P w base spare held fuel e)) = elemAt at hd
              have hel' : ∀ i, (w.cells? base (a.add (i * P.cellsOf e)) (P.cellsOf e)).bind (DataW.trod enc P w base spare held fuel e) = elemAt i := fun i => by rw [← hel]
              simp only [hsp, if_true, hel'] at hd
              cases hm : (List.range len).mapM elemAt with
              | none => rw [hm] at hd; simp at hd
              | some elems =>
                rw [hm] at hd
                simp only [Option.bind_some] at hd
                cases hr : (List.range (cap - len)).mapM fun j => elemAt (len + j) with
                | none => rw [hr] at hd; simp at hd
                | some rest =>
                  rw [hr] at hd
                  simp only [Option.map_some, Option.some.injEq, Prod.mk.injEq] at hd
                  obtain ⟨rfl, rfl⟩ := hd
                  obtain ⟨m1, m2⟩ := mapM_opt hm
                  refine .inr ⟨_, _, rfl, fun x hx => ?_⟩
                  obtain ⟨y, hy, rfl⟩ := List.mem_map.1 hx
                  obtain ⟨j, hj⟩ := List.mem_iff_getElem?.1 hy
                  have hjl : j < len := by
                    have := (List.getElem?_eq_some_iff.1 hj).1
                    simp only [List.length_range] at m1
                    omega
                  have h3 := m2 j j y (by rw [List.getElem?_range hjl]) hj
                  rw [← hel' j] at h3
                  cases hc : w.cells? base (a.add (j * P.cellsOf e)) (P.cellsOf e) with
                  | none => rw [hc] at h3; cases h3
                  | some cs' =>
                    rw [hc] at h3
                    simp only [Option.bind_some] at h3
                    exact trod_shape hsp n h2 fuel (d := y.1) (ps := y.2) h3
            · simp at hd
        · cases v <;> simp at hd
      | _ => cases h

/-- What an argument read so is, abstractly. -/
def argV {H : Type} (P : Program) (t : TypeId) (d : DataW H) : AVal :=
  match P.underlying t with
  | some (.struct _) => .agg (absD d)
  | _ => (absD d).headD .undef

theorem arg_fit {H : Type} {enc : TypeId × Value → H} {base base' : Nat} {spare : Nat → Bool} {held : Bool} {r : Reach} (hsp : ∀ b, spare b = true) {n : Nat} {t : TypeId} {v : Value} {d : DataW H} {ps : List MemPlace}
    (hp : plainT P n t = true) (hok : Value.okWide P w r base' t v) (hd : DataW.Trod enc P w base spare held t v d ps) : Out0 w (argV P t d) v ∧ ShapeD P n t d := by
  obtain ⟨fuel, hd⟩ := hd
  refine ⟨?_, trod_shape hsp n hp fuel hd⟩
  obtain ⟨h1, h2, _⟩ := trod_fit (ρ := fun _ _ => none) (R := fun _ => False) (T := fun _ => False) (free0 w) hsp n hp fuel hd
  have one : P.cellsOf t = 1 → v.cells = #[v] → Fit (fun _ _ => none) (fun _ => False) (fun _ => False) w ((absD d).headD .undef) v := fun hc hv => by
    rw [hc] at h2
    rw [hv] at h1
    match hx : absD d, h2 with
    | [x], _ =>
      rw [hx] at h1
      have h4 := h1.2 0 (by simp)
      simpa using h4
  cases n with
  | zero => cases hp
  | succ n =>
    simp only [plainT] at hp
    unfold argV
    cases hu : P.underlying t with
    | none => rw [hu] at hp; cases hp
    | some td =>
      rw [hu] at hp
      unfold Value.okWide at hok
      rw [hu] at hok
      cases td with
      | struct fs =>
        obtain ⟨cs, rfl, _, _⟩ := hok
        refine .agg _ _ (by simpa [Value.cells] using h1.1) fun j hj => ?_
        have h4 := h1.2 j hj
        simpa [Value.cells] using h4
      | bool =>
        simp only [beq_iff_eq] at hp
        refine one hp ?_
        cases v <;> first | rfl | simp [Cell.okWide, Cell.ok, hu] at hok
      | int k =>
        simp only [beq_iff_eq] at hp
        refine one hp ?_
        cases v <;> first | rfl | simp [Cell.okWide, Cell.ok, hu] at hok
      | string =>
        simp only [beq_iff_eq] at hp
        refine one hp ?_
        cases v <;> first | rfl | simp [Cell.okWide, Cell.ok, hu] at hok
      | slice e =>
        simp only [Bool.and_eq_true, beq_iff_eq] at hp
        refine one hp.1 ?_
        cases v <;> first | rfl | simp [Cell.okWide, Cell.ok, hu] at hok
      | _ => cases hp

theorem FitL.two {x y : AVal} {u v : Value} (h1 : Out0 w x u) (h2 : Out0 w y v) : Out0L w [x, y] [u, v] := (FitL.one h1).append (FitL.one h2)
theorem FitL.three {x y z : AVal} {u v t : Value} (h1 : Out0 w x u) (h2 : Out0 w y v) (h3 : Out0 w z t) : Out0L w [x, y, z] [u, v, t] := (FitL.one h1).append ((FitL.one h2).append (FitL.one h3))

/-- A call that answers a truth value, from outside. -/
theorem ExCall.calls (hP : NoNG P) (hm : P.follows .mixedOrders = true) {f : FuncId} {args : List AVal} {b : Bool} (h : ExCall pol P f args (.bool b)) (hgl : ∀ g, pol.glob g = none) {xs : List Value} (hf : Out0L w args xs) :
    Calls P f xs.toArray w fun e w' => e = .returned (.bool b) ∧ RowKit.Below w.heap.size w w' := by
  obtain ⟨n, v, e, s, ids, h1, h2⟩ := h
  have hv : v = .bool b := by
    unfold frz at h2
    cases hp : v.pure with
    | true => rw [hp] at h2; cases h2; rfl
    | false =>
      rw [hp] at h2
      simp only [cond_false] at h2
      cases v with
      | bool c => cases hp
      | sl cx b inc ver off len sz =>
        unfold freeze at h2
        simp only at h2
        split at h2
        · cases h2
        · split at h2 <;> cases h2
      | iface t x =>
        unfold freeze at h2
        simp only at h2
        split at h2 <;> cases h2
      | agg cs =>
        unfold freeze at h2
        simp only at h2
        split at h2 <;> cases h2
      | tuple cs =>
        unfold freeze at h2
        simp only at h2
        split at h2 <;> cases h2
      | _ =>
        unfold freeze at h2
        simp only [hp, cond_false] at h2
        cases h2
  subst hv
  exact exec_top hP hm h1 (fun g cells hg => by rw [hgl g] at hg; cases hg) hf
end Go.Ax
