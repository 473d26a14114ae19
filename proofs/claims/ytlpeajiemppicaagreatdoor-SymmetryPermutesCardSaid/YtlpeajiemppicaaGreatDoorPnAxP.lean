/- Each abstract operation stands for the model's: indexes, slices, structs built, arithmetic, comparisons. -/
import Derived.Test.YtlpeajiemppicaaGreatDoorPnAxO
namespace Go.Ax
set_option linter.unusedVariables false
set_option linter.unusedSimpArgs false

variable {P : Program} {pol : Pol} {ρ : Loc} {R T : Nat → Prop} {w : World}

theorem add_add (a : Addr) (m j : Nat) : (a.add m).add j = a.add (m + j) := by
  unfold Addr.add
  by_cases c1 : m = 0 <;> by_cases c2 : j = 0
  · simp [c1, c2]
  · simp [c1, c2]
  · simp [c1, c2]
  · simp [c1, c2]; omega

/-- A pointer further into a frozen row. -/
theorem fptr_drop {tn : Bool} {cells : List AVal} {a : Addr} {vs : Nat → Value} (h4 : ∀ j, j < cells.length → Free R T tn a.block ∧ w.cell? (a.add j) = some (vs j))
    (h5 : ∀ j (h : j < cells.length), Fit ρ R T w cells[j] (vs j)) (h6 : allPure cells = true) (m : Nat) : Fit ρ R T w (.fptr tn (cells.drop m)) (.pointer (some (a.add m))) := by
  refine .fptr tn _ _ (fun j => vs (m + j)) (fun j hj => ?_) (fun j hj => ?_) (allPure_drop h6 _)
  · simp only [List.length_drop] at hj
    obtain ⟨b1, b2⟩ := h4 (m + j) (by omega)
    rw [add_block, add_add]; exact ⟨b1, b2⟩
  · have e1 : (cells.drop m)[j] = cells[m + j]'(by simp only [List.length_drop] at hj; omega) := by rw [List.getElem_drop]
    rw [e1]; exact h5 _ _

theorem aindexAddr_ok {t : TypeId} {p ix v : AVal} {x y : Value} (h : aindexAddr P t p ix = some v) (hf : Fit ρ R T w p x) (hi : Fit ρ R T w ix y) : ∃ z, (∀ w, (Instr.indexAt t x y).run P w = .ok z w) ∧ Fit ρ R T w v z := by
  unfold aindexAddr at h
  cases ix with
  | int k i =>
    cases hi
    simp only at h
    cases hu : P.underlying t with
    | none => rw [hu] at h; cases h
    | some d =>
      rw [hu] at h
      cases d with
      | array len elem =>
        cases p with
        | ptr b inc ver off =>
          simp only at h
          cases hz : szT P elem with
          | none => rw [hz] at h; cases h
          | some n =>
            rw [hz] at h
            simp only at h
            cases hc : (decide (0 ≤ i) && decide (i < (len : Int))) with
            | false => rw [hc] at h; cases h
            | true =>
              rw [hc] at h
              simp only [cond_true, Option.some.injEq] at h
              subst h
              simp only [Bool.and_eq_true, decide_eq_true_eq] at hc
              cases hf with
              | ptr _ _ _ _ g h1 =>
                refine ⟨.pointer (some ((⟨g, off, none⟩ : Addr).add (i.toNat * n))), fun w => ?_, ?_⟩
                · simp [Instr.indexAt, asIntOf, run_underlying hu, Instr.sureAddr, Sem.run, pure, run_size hz, hc.1, hc.2]
                · rw [addr_add]; exact .ptr b inc ver _ g h1
        | fptr tn cells =>
          simp only at h
          cases hz : szT P elem with
          | none => rw [hz] at h; cases h
          | some n =>
            rw [hz] at h
            simp only at h
            cases hc : (decide (0 ≤ i) && decide (i < (len : Int))) with
            | false => rw [hc] at h; cases h
            | true =>
              rw [hc] at h
              simp only [cond_true, Option.some.injEq] at h
              subst h
              simp only [Bool.and_eq_true, decide_eq_true_eq] at hc
              cases hf with
              | fptr _ _ a vs h4 h5 h6 =>
                refine ⟨.pointer (some (a.add (i.toNat * n))), fun w => ?_, fptr_drop h4 h5 h6 _⟩
                simp [Instr.indexAt, asIntOf, run_underlying hu, Instr.sureAddr, Sem.run, pure, run_size hz, hc.1, hc.2]
        | _ => cases h
      | slice elem =>
        cases p with
        | sl cx b inc ver off len sz =>
          simp only at h
          cases hz : szT P elem with
          | none => rw [hz] at h; cases h
          | some n =>
            rw [hz] at h
            simp only at h
            cases hc : (n == sz && decide (0 ≤ i) && decide (i < (len : Int))) with
            | false => rw [hc] at h; cases h
            | true =>
              rw [hc] at h
              simp only [cond_true, Option.some.injEq] at h
              subst h
              simp only [Bool.and_eq_true, decide_eq_true_eq, beq_iff_eq] at hc
              cases hf with
              | sl _ _ _ _ _ _ _ g cap e m h1 h2 h3 h4 h5 =>
                refine ⟨.pointer (some ((⟨g, off, none⟩ : Addr).add (i.toNat * n))), fun w => ?_, ?_⟩
                · simp [Instr.indexAt, asIntOf, run_underlying hu, Sem.run, pure, run_size hz, hc.1.2, hc.2]
                · rw [addr_add]; exact .ptr b inc ver _ g h1
        | fsl tn cx len cells =>
          simp only at h
          cases hz : szT P elem with
          | none => rw [hz] at h; cases h
          | some n =>
            rw [hz] at h
            simp only at h
            cases hc : (decide (0 ≤ i) && decide (i < (len : Int))) with
            | false => rw [hc] at h; cases h
            | true =>
              rw [hc] at h
              simp only [cond_true, Option.some.injEq] at h
              subst h
              simp only [Bool.and_eq_true, decide_eq_true_eq] at hc
              cases hf with
              | fsl _ _ _ _ A cap vs h1 h2 h3 h4 h5 h6 =>
                obtain ⟨a, rfl⟩ := h3 (by omega)
                refine ⟨.pointer (some (a.add (i.toNat * n))), fun w => ?_, fptr_drop (fun j hj => by
                  obtain ⟨a', e, b1, b2⟩ := h4 j hj
                  cases e; exact ⟨b1, b2⟩) h5 h6 _⟩
                simp [Instr.indexAt, asIntOf, run_underlying hu, Sem.run, pure, run_size hz, hc.1, hc.2]
        | _ => cases h
      | _ => cases h
  | _ => cases h

theorem aindex_ok {t : TypeId} {p ix v : AVal} {x y : Value} (h : aindex P t p ix = some v) (hf : Fit ρ R T w p x) (hi : Fit ρ R T w ix y) : ∃ z, (∀ w, (Instr.index t x y).run P w = .ok z w) ∧ Fit ρ R T w v z := by
  unfold aindex at h
  cases ix with
  | int k i =>
    cases hi
    simp only at h
    cases hu : P.underlying t with
    | none => rw [hu] at h; cases h
    | some d =>
      rw [hu] at h
      cases d with
      | array len elem =>
        cases p with
        | agg cs =>
          simp only at h
          cases hz : szT P elem with
          | none => rw [hz] at h; cases h
          | some n =>
            rw [hz] at h
            simp only at h
            cases hc : (decide (0 ≤ i) && decide (i < (len : Int))) with
            | false => rw [hc] at h; cases h
            | true =>
              rw [hc] at h
              simp only [cond_true] at h
              simp only [Bool.and_eq_true, decide_eq_true_eq] at hc
              cases hf with
              | agg _ xs h1 h2 =>
                obtain ⟨z, b1, b2⟩ := apart_ok h h1 h2
                exact ⟨z, fun w => by simp [Instr.index, asIntOf, run_underlying hu, Sem.run, pure, run_size hz, hc.1, hc.2, b1], b2⟩
        | _ => cases h
      | string =>
        cases p with
        | str s =>
          simp only at h
          cases hc : decide (0 ≤ i) with
          | false => rw [hc] at h; cases h
          | true =>
            rw [hc] at h
            simp only [cond_true, Option.map_eq_some_iff] at h
            obtain ⟨b, hb, rfl⟩ := h
            simp only [decide_eq_true_eq] at hc
            cases hf with
            | str s =>
              rw [List.getElem?_map, Option.map_eq_some_iff] at hb
              obtain ⟨c, hc1, rfl⟩ := hb
              have hs : s[i.toNat]? = some c := by
                obtain ⟨h1, h2⟩ := List.getElem?_eq_some_iff.1 hc1
                have h3 : i.toNat < s.size := by simpa using h1
                rw [getElem?_pos s i.toNat h3]
                congr 1
              refine ⟨.int .u8 c.toNat, fun w => ?_, ?_⟩
              · simp [Instr.index, asIntOf, run_underlying hu, Sem.run, pure, hc, hs]
              · exact .int .u8 _
        | _ => cases h
      | _ => cases h
  | _ => cases h

/-! ### slices -/
theorem abound_ok {y l : Nat} {p : AVal} {x : Value} {code : BoundsCode} (h : abound y p = some l) (hf : Fit ρ R T w p x) : l ≤ y ∧ ∀ (y' : Nat) w, y ≤ y' → (Instr.sliceBound x y' code).run P w = .ok l w := by
  cases p with
  | int k i =>
    cases hf
    simp only [abound] at h
    cases hc : (decide (0 ≤ i) && decide (i ≤ (y : Int))) with
    | false => rw [hc] at h; cases h
    | true =>
      rw [hc] at h
      simp only [cond_true, Option.some.injEq] at h
      subst h
      simp only [Bool.and_eq_true, decide_eq_true_eq] at hc
      refine ⟨by omega, fun y' w hy => ?_⟩
      simp [Instr.sliceBound, asIntOf, Sem.run, pure, hc.1, show i ≤ (y' : Int) by omega]
  | _ => cases h

/-- An optional operand and its value. -/
inductive FitO (ρ : Loc) (R T : Nat → Prop) (w : World) : Option AVal → Option Value → Prop
  | none : FitO ρ R T w none none
  | some {v : AVal} {x : Value} (h : Fit ρ R T w v x) : FitO ρ R T w (some v) (some x)

theorem abounds_ok {len cap l h : Nat} {m : Option Nat} {lo hi mx : Option AVal} {lo' hi' mx' : Option Value} (isS : Bool) (hb : abounds len lo hi mx = some (l, h, m)) (hc : len ≤ cap)
    (flo : FitO ρ R T w lo lo') (fhi : FitO ρ R T w hi hi') (fmx : FitO ρ R T w mx mx') :
    l ≤ h ∧ h ≤ len ∧ (∀ k, m = some k → h ≤ k ∧ k ≤ len) ∧ (m = none ↔ mx' = none) ∧ ∀ w, (Instr.sliceBounds isS len cap lo' hi' mx').run P w = .ok (l, h, m.getD cap) w := by
  unfold abounds at hb
  cases fmx with
  | some fm =>
    rename_i mv mval
    cases fhi with
    | none => cases hb
    | some fh =>
      rename_i hv hval
      simp only at hb
      cases h1 : abound len mv with
      | none => rw [h1] at hb; cases hb
      | some k =>
        rw [h1] at hb
        simp only at hb
        cases h2 : abound k hv with
        | none => rw [h2] at hb; cases hb
        | some h' =>
          rw [h2] at hb
          simp only at hb
          obtain ⟨a1, a2⟩ := abound_ok (P := P) (code := if isS then .slice3Acap else .slice3Alen) h1 fm
          obtain ⟨b1, b2⟩ := abound_ok (P := P) (code := .slice3B) h2 fh
          cases flo with
          | none =>
            simp only [aboundO, Option.some.injEq, Prod.mk.injEq] at hb
            obtain ⟨rfl, rfl, rfl⟩ := hb
            refine ⟨Nat.zero_le _, by omega, (fun k' e => by cases e; exact ⟨b1, a1⟩), by simp, fun w => ?_⟩
            simp [Instr.sliceBounds, a2 cap w hc, b2 k w (Nat.le_refl _), Sem.run, pure]
          | some fl =>
            rename_i lv lval
            simp only [aboundO] at hb
            cases h3 : abound h' lv with
            | none => rw [h3] at hb; cases hb
            | some l' =>
              rw [h3] at hb
              simp only [Option.some.injEq, Prod.mk.injEq] at hb
              obtain ⟨rfl, rfl, rfl⟩ := hb
              obtain ⟨c1, c2⟩ := abound_ok (P := P) (code := .slice3C) h3 fl
              refine ⟨c1, by omega, (fun k' e => by cases e; exact ⟨b1, a1⟩), by simp, fun w => ?_⟩
              simp [Instr.sliceBounds, a2 cap w hc, b2 k w (Nat.le_refl _), c2 h' w (Nat.le_refl _), Sem.run, pure]
  | none =>
    simp only at hb
    cases fhi with
    | none =>
      simp only [aboundO] at hb
      cases flo with
      | none =>
        simp only [aboundO, Option.some.injEq, Prod.mk.injEq] at hb
        obtain ⟨rfl, rfl, rfl⟩ := hb
        refine ⟨Nat.zero_le _, Nat.le_refl _, (fun k' e => by cases e), by simp, fun w => ?_⟩
        simp [Instr.sliceBounds, Sem.run, pure]
      | some fl =>
        rename_i lv lval
        simp only [aboundO] at hb
        cases h3 : abound len lv with
        | none => rw [h3] at hb; cases hb
        | some l' =>
          rw [h3] at hb
          simp only [Option.some.injEq, Prod.mk.injEq] at hb
          obtain ⟨rfl, rfl, rfl⟩ := hb
          obtain ⟨c1, c2⟩ := abound_ok (P := P) (code := .sliceB) h3 fl
          refine ⟨c1, Nat.le_refl _, (fun k' e => by cases e), by simp, fun w => ?_⟩
          simp [Instr.sliceBounds, c2 len w (Nat.le_refl _), Sem.run, pure]
    | some fh =>
      rename_i hv hval
      simp only [aboundO] at hb
      cases h2 : abound len hv with
      | none => rw [h2] at hb; cases hb
      | some h' =>
        rw [h2] at hb
        simp only at hb
        obtain ⟨b1, b2⟩ := abound_ok (P := P) (code := if isS then .sliceAcap else .sliceAlen) h2 fh
        cases flo with
        | none =>
          simp only [aboundO, Option.some.injEq, Prod.mk.injEq] at hb
          obtain ⟨rfl, rfl, rfl⟩ := hb
          refine ⟨Nat.zero_le _, b1, (fun k' e => by cases e), by simp, fun w => ?_⟩
          simp [Instr.sliceBounds, b2 cap w hc, Sem.run, pure]
        | some fl =>
          rename_i lv lval
          simp only [aboundO] at hb
          cases h3 : abound h' lv with
          | none => rw [h3] at hb; cases hb
          | some l' =>
            rw [h3] at hb
            simp only [Option.some.injEq, Prod.mk.injEq] at hb
            obtain ⟨rfl, rfl, rfl⟩ := hb
            obtain ⟨c1, c2⟩ := abound_ok (P := P) (code := .sliceB) h3 fl
            refine ⟨c1, b1, (fun k' e => by cases e), by simp, fun w => ?_⟩
            simp [Instr.sliceBounds, b2 cap w hc, c2 h' w (Nat.le_refl _), Sem.run, pure]

end Go.Ax
