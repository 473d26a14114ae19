/- Each abstract operation stands for the model's: the quiet ones. -/
import Derived.Test.YtlpeajiemppicaaGreatDoorPnAxF
namespace Go.Ax
set_option linter.unusedVariables false
set_option linter.unusedSimpArgs false

variable {P : Program} {pol : Pol} {ρ : Loc} {R T : Nat → Prop} {w : World}

/-! ### types -/
theorem run_size {t : TypeId} {n : Nat} (h : szT P t = some n) (w : World) : (sizeOf t).run P w = .ok n w := by
  unfold szT at h
  cases hi : P.info? t with
  | none => rw [hi] at h; cases h
  | some i =>
    rw [hi] at h
    simp only [Option.map_some, Option.some.injEq] at h
    simp [sizeOf, typeInfo, program, Sem.run, hi, h, pure]

theorem run_info {t : TypeId} {i : TypeInfo} (h : P.info? t = some i) (w : World) : (typeInfo t).run P w = .ok i w := by
  simp [typeInfo, program, Sem.run, h, pure]

theorem run_isAgg {t : TypeId} {b : Bool} (h : isAggT P t = some b) (w : World) : (isAgg t).run P w = .ok b w := by
  unfold isAggT at h
  cases hu : P.underlying t with
  | none => rw [hu] at h; cases h
  | some d =>
    rw [hu] at h
    simp only [isAgg, Sem.run_bind, run_underlying hu, Result.andThen_ok]
    cases d <;> simp_all [Sem.run, pure]

/-! ### constants -/
theorem mapO_ok {α β : Type} {f : α → Option β} : ∀ {l : List α} {r : List β}, mapO f l = some r → r.length = l.length ∧ ∀ j (h : j < l.length) (h' : j < r.length), f l[j] = some r[j]
  | [], r, h => by simp [mapO] at h; subst h; exact ⟨rfl, fun j h => by simp at h⟩
  | a :: l, r, h => by
    simp only [mapO] at h
    cases h1 : f a with
    | none => rw [h1] at h; cases h
    | some b =>
      rw [h1] at h
      simp only at h
      cases h2 : mapO f l with
      | none => rw [h2] at h; cases h
      | some s =>
        rw [h2] at h
        simp only [Option.some.injEq] at h
        subst h
        obtain ⟨a1, a2⟩ := mapO_ok h2
        refine ⟨by simp [a1], fun j hj hj' => ?_⟩
        cases j with
        | zero => exact h1
        | succ j => exact a2 j (by simpa using hj) (by simpa using hj')

theorem ofVal_ok (ρ : Loc) (R T : Nat → Prop) (w : World) : ∀ (n : Nat) (x : Value) (v : AVal), ofVal n x = some v → Fit ρ R T w v x := by
  intro n
  induction n with
  | zero => intro x v h; cases h
  | succ n ih =>
    have list : ∀ (cs : Array Value) (l : List AVal), mapO (ofVal n) cs.toList = some l → cs.size = l.length ∧ ∀ j (h : j < l.length), Fit ρ R T w l[j] (cs.getD j undef) := by
      intro cs l h
      obtain ⟨h1, h2⟩ := mapO_ok h
      refine ⟨by simpa using h1.symm, fun j hj => ?_⟩
      have hj' : j < cs.toList.length := by omega
      have := ih _ _ (h2 j hj' hj)
      simpa [Array.getD, show j < cs.size by simpa using hj'] using this
    intro x v h
    cases x with
    | bool b => simp only [ofVal, Option.some.injEq] at h; subst h; exact .bool b
    | int k i => simp only [ofVal, Option.some.injEq] at h; subst h; exact .int k i
    | string s => simp only [ofVal, Option.some.injEq] at h; subst h; exact .str s
    | pointer a => cases a with
      | none => simp only [ofVal, Option.some.injEq] at h; subst h; exact .nilptr
      | some a => cases h
    | nilFunc => simp only [ofVal, Option.some.injEq] at h; subst h; exact .nilfunc
    | nilIface => simp only [ofVal, Option.some.injEq] at h; subst h; exact .nilif
    | map r => cases r with
      | none => simp only [ofVal, Option.some.injEq] at h; subst h; exact .nilmap
      | some r => cases h
    | slice a l c =>
      cases a with
      | some a => cases h
      | none =>
        cases l with
        | succ l => cases h
        | zero =>
          cases c with
          | succ c => cases h
          | zero =>
            simp only [ofVal, Option.some.injEq] at h; subst h
            exact .fsl false true 0 [] none 0 (fun _ => undef) (Nat.le_refl _) (fun _ => rfl) (fun h => by omega) (fun j h => by simp at h) (fun j h => by simp at h) rfl
    | agg cs =>
      simp only [ofVal, Option.map_eq_some_iff] at h
      obtain ⟨l, h1, rfl⟩ := h
      obtain ⟨a1, a2⟩ := list cs l h1
      exact .agg l cs a1 a2
    | tuple cs =>
      simp only [ofVal, Option.map_eq_some_iff] at h
      obtain ⟨l, h1, rfl⟩ := h
      obtain ⟨a1, a2⟩ := list cs l h1
      exact .tuple l cs a1 a2
    | iface t y =>
      simp only [ofVal, Option.map_eq_some_iff] at h
      obtain ⟨l, h1, rfl⟩ := h
      exact .iface t l y (ih _ _ h1)
    | func fn f c =>
      cases fn with
      | func g =>
        simp only [ofVal] at h
        cases hc : (f.isEmpty && c.isEmpty) with
        | false => rw [hc] at h; cases h
        | true =>
          rw [hc] at h
          simp only [cond_true, Option.some.injEq] at h
          subst h
          simp only [Bool.and_eq_true, Array.isEmpty_iff] at hc
          obtain ⟨rfl, rfl⟩ := hc
          exact .func _ [] [] #[] #[] rfl rfl (fun j h => by simp at h) (fun j h => by simp at h)
      | method => cases h
      | methodOf => cases h
      | via => cases h
      | yield => cases h
    | float => cases h
    | complex => cases h
    | chan => cases h

theorem run_zero {t : TypeId} {z : AVal} (h : zeroT P t = some z) (w : World) : ∃ zv, (zeroValue t).run P w = .ok zv w ∧ ofVal 4 zv = some z := by
  unfold zeroT at h
  cases hi : P.info? t with
  | none => rw [hi] at h; cases h
  | some i =>
    rw [hi] at h
    simp only [Option.bind_some] at h
    cases hz : i.zero with
    | none => rw [hz] at h; cases h
    | some z' =>
      rw [hz] at h
      refine ⟨z', ?_, h⟩
      simp [zeroValue, run_info hi, hz, pure, Sem.run]

/-- What the package-level variables hold. -/
def GlobOk (pol : Pol) (ρ : Loc) (R T : Nat → Prop) (w : World) : Prop := ∀ g cells, pol.glob g = some cells → Fit ρ R T w (.fptr false cells) (.pointer (some ⟨g, 0, none⟩))

theorem aev_ok {env : Env} {a : Act} (he : EnvOk ρ R T w env a.tmps) (hg : GlobOk pol ρ R T w) {x : Operand} {v : AVal} (h : aev pol env x = some v) : Fit ρ R T w v (a.eval x) := by
  cases x with
  | tmp t => exact he t v h
  | const c => exact ofVal_ok ρ R T w 4 c v h
  | global g =>
    simp only [aev, Option.map_eq_some_iff] at h
    obtain ⟨cells, h1, rfl⟩ := h
    exact hg g cells h1
  | func f =>
    simp only [aev, Option.some.injEq] at h
    subst h
    exact .func _ [] [] #[] #[] rfl rfl (fun j h => by simp at h) (fun j h => by simp at h)

theorem evL_ok {env : Env} {a : Act} (he : EnvOk ρ R T w env a.tmps) (hg : GlobOk pol ρ R T w) : ∀ {xs : List Operand} {vs : List AVal}, evL pol env xs = some vs → FitL ρ R T w vs (xs.map a.eval)
  | [], vs, h => by simp only [evL, Option.some.injEq] at h; subst h; exact ⟨rfl, fun j h => by simp at h⟩
  | x :: r, vs, h => by
    simp only [evL] at h
    cases h1 : aev pol env x with
    | none => rw [h1] at h; cases h
    | some v =>
      rw [h1] at h
      simp only at h
      cases h2 : evL pol env r with
      | none => rw [h2] at h; cases h
      | some ws =>
        rw [h2] at h
        simp only [Option.some.injEq] at h
        subst h
        obtain ⟨a1, a2⟩ := evL_ok he hg h2
        refine ⟨by simpa using a1, fun j hj => ?_⟩
        cases j with
        | zero => exact aev_ok he hg h1
        | succ j => simpa using a2 j (by simpa using hj)

theorem evO_ok {env : Env} {a : Act} (he : EnvOk ρ R T w env a.tmps) (hg : GlobOk pol ρ R T w) {x : Option Operand} {v : Option AVal} (h : evO pol env x = some v) :
    (x = none ∧ v = none) ∨ ∃ y u, x = some y ∧ v = some u ∧ Fit ρ R T w u (a.eval y) := by
  cases x with
  | none => simp only [evO, Option.some.injEq] at h; exact .inl ⟨rfl, h.symm⟩
  | some y =>
    simp only [evO] at h
    cases h1 : aev pol env y with
    | none => rw [h1] at h; cases h
    | some u =>
      rw [h1] at h
      simp only [Option.some.injEq] at h
      exact .inr ⟨y, u, rfl, h.symm, aev_ok he hg h1⟩

/-! ### memory read -/
theorem fit_list {xs : List AVal} {f : Nat → Value} (h : ∀ j (h : j < xs.length), Fit ρ R T w xs[j] (f j)) : Fit ρ R T w (.agg xs) (.agg ((List.range xs.length).map f).toArray) :=
  .agg xs _ (by simp) (fun j hj => by simpa [Array.getD, hj] using h j hj)

theorem aloadCells_ok {Res : Nat → Prop} {st : St} (hgood : Good ρ Res T st w) {n : Nat} {p : AVal} {x : Value} {cs : List AVal} (h : aloadCells st n p = some cs) (hf : Fit ρ (Rs ρ st.heap Res) T w p x) :
    cs.length = n ∧ ∃ a, x = .pointer (some a) ∧ ∃ f : Nat → Value, ∀ j (hj : j < cs.length), w.cell? (a.add j) = some (f j) ∧ Fit ρ (Rs ρ st.heap Res) T w cs[j] (f j) := by
  cases p with
  | ptr b inc ver off =>
    cases hf with
    | ptr _ _ _ _ g h1 =>
      obtain ⟨a1, c, e, a2, a3⟩ := rowAt_ok hgood h h1
      refine ⟨a1, _, rfl, fun j => c.getD (off + j) undef, fun j hj => ?_⟩
      obtain ⟨v, hv, hfit⟩ := a3 j hj
      have : c.getD (off + j) undef = v := by simp [Array.getD_eq_getD_getElem?, hv]
      show w.cell? _ = some (c.getD (off + j) undef) ∧ Fit _ _ _ _ _ (c.getD (off + j) undef)
      rw [addr_add, cell_of_cells a2, hv, this]
      exact ⟨rfl, hfit⟩
  | fptr tn cells =>
    simp only [aloadCells] at h
    cases hn : Nat.ble n cells.length with
    | false => rw [hn] at h; cases h
    | true =>
      rw [hn] at h
      simp only [cond_true, Option.some.injEq] at h
      subst h
      have hn' := Nat.le_of_ble_eq_true hn
      cases hf with
      | fptr _ _ a vs h4 h5 =>
        have hl : (cells.take n).length = n := by simp; omega
        refine ⟨hl, a, rfl, vs, fun j hj => ?_⟩
        rw [hl] at hj
        have : (cells.take n)[j] = cells[j] := by rw [List.getElem_take]
        rw [this]
        exact ⟨(h4 j (by omega)).2, h5 j (by omega)⟩
  | bool | int | str | nilptr | nilfunc | nilif | nilmap | fsl | sl | map | iter | yld | func | iface | agg | tuple => cases h

theorem add_zero' (a : Addr) : a.add 0 = a := by simp [Addr.add]

theorem aload_ok {Res : Nat → Prop} {st : St} (hgood : Good ρ Res T st w) {t : TypeId} {p : AVal} {x : Value} {v : AVal} (h : aload P t p st = some v) (hf : Fit ρ (Rs ρ st.heap Res) T w p x) :
    ∃ a y, x = .pointer (some a) ∧ (loadVar t a).run P w = .ok y w ∧ Fit ρ (Rs ρ st.heap Res) T w v y := by
  unfold aload at h
  cases ht : isAggT P t with
  | none => rw [ht] at h; cases h
  | some b =>
    rw [ht] at h
    cases b with
    | true =>
      simp only at h
      cases hs : szT P t with
      | none => rw [hs] at h; cases h
      | some n =>
        rw [hs] at h
        simp only [Option.map_eq_some_iff] at h
        obtain ⟨cs, h1, rfl⟩ := h
        obtain ⟨a1, a, rfl, f, a2⟩ := aloadCells_ok hgood h1 hf
        refine ⟨a, _, rfl, ?_, fit_list (fun j hj => (a2 j hj).2)⟩
        simp only [loadVar, Sem.run_bind, run_isAgg ht, Result.andThen_ok, if_true, run_size hs]
        rw [run_loadCells w a n f (fun j hj => (a2 j (by omega)).1)]
        simp [Sem.run, pure, a1]
    | false =>
      simp only at h
      cases h1 : aloadCells st 1 p with
      | none => rw [h1] at h; cases h
      | some cs =>
        rw [h1] at h
        obtain ⟨a1, a, rfl, f, a2⟩ := aloadCells_ok hgood h1 hf
        match cs, a1 with
        | [y], _ =>
          simp only [Option.some.injEq] at h
          subst h
          obtain ⟨b1, b2⟩ := a2 0 (by simp)
          rw [add_zero'] at b1
          refine ⟨a, f 0, rfl, ?_, b2⟩
          simp [loadVar, run_isAgg ht, run_load, b1]

/-! ### parts of structs and arrays -/
theorem apart_ok {t : TypeId} {cs : List AVal} {xs : Array Value} {off : Nat} {v : AVal} (h : apart P t cs off = some v) (hs : xs.size = cs.length) (hf : ∀ j (h : j < cs.length), Fit ρ R T w cs[j] (xs.getD j undef)) :
    ∃ y, (∀ w, (part t xs off).run P w = .ok y w) ∧ Fit ρ R T w v y := by
  unfold apart at h
  cases ht : isAggT P t with
  | none => rw [ht] at h; cases h
  | some b =>
    rw [ht] at h
    cases b with
    | true =>
      simp only at h
      cases hz : szT P t with
      | none => rw [hz] at h; cases h
      | some n =>
        rw [hz] at h
        simp only at h
        cases hn : Nat.ble (off + n) cs.length with
        | false => rw [hn] at h; cases h
        | true =>
          rw [hn] at h
          simp only [cond_true, Option.some.injEq] at h
          subst h
          have hn' := Nat.le_of_ble_eq_true hn
          refine ⟨.agg (xs.extract off (off + n)), fun w => by simp [part, run_isAgg ht, run_size hz, Sem.run, pure], .agg _ _ (by simp; omega) (fun j hj => ?_)⟩
          have hl : ((cs.drop off).take n).length = n := by simp; omega
          rw [hl] at hj
          have e1 : ((cs.drop off).take n)[j] = cs[off + j] := by rw [List.getElem_take, List.getElem_drop]
          have e2 : (xs.extract off (off + n)).getD j undef = xs.getD (off + j) undef := by
            have h1 : off + j < xs.size := by omega
            have h2 : j < (xs.extract off (off + n)).size := by simp; omega
            simp only [Array.getD, h1, h2, dif_pos, Array.getInternal_eq_getElem, Array.getElem_extract]
          rw [e1, e2]
          exact hf (off + j) (by omega)
    | false =>
      simp only at h
      obtain ⟨h1, h2⟩ := List.getElem?_eq_some_iff.1 h
      refine ⟨xs.getD off undef, fun w => ?_, by rw [← h2]; exact hf off h1⟩
      have h3 : off < xs.size := by omega
      simp [part, run_isAgg ht, h3, Sem.run, pure, Array.getD]

theorem afield_ok {t : TypeId} {p : AVal} {x : Value} {i : Nat} {v : AVal} (h : afield P t p i = some v) (hf : Fit ρ R T w p x) : ∃ y, (Instr.field t x i).run P w = .ok y w ∧ Fit ρ R T w v y := by
  unfold afield at h
  cases hu : P.underlying t with
  | none => rw [hu] at h; cases h
  | some d =>
    rw [hu] at h
    cases d with
    | struct fields =>
      cases p with
      | agg cs =>
        simp only at h
        cases hi : fields[i]? with
        | none => rw [hi] at h; cases h
        | some fd =>
          rw [hi] at h
          cases hf with
          | agg _ xs h1 h2 =>
            obtain ⟨y, b1, b2⟩ := apart_ok h h1 h2
            refine ⟨y, ?_, b2⟩
            simp [Instr.field, run_underlying hu, hi, asAgg, Sem.run, pure, b1]
      | _ => cases h
    | _ => cases h

theorem afieldAddr_ok {t : TypeId} {p : AVal} {x : Value} {i : Nat} {v : AVal} (h : afieldAddr P t p i = some v) (hf : Fit ρ R T w p x) :
    ∃ a fields fd a', x = .pointer (some a) ∧ P.underlying t = some (.struct fields) ∧ fields[i]? = some fd ∧ (∀ w, (fieldPlace a fd).run P w = .ok a' w) ∧ Fit ρ R T w v (.pointer (some a')) := by
  unfold afieldAddr at h
  cases hu : P.underlying t with
  | none => rw [hu] at h; cases h
  | some d =>
    rw [hu] at h
    cases d with
    | struct fields =>
      simp only at h
      cases hi : fields[i]? with
      | none => rw [hi] at h; cases h
      | some fd =>
        rw [hi] at h
        simp only at h
        cases hz : szT P fd.type with
        | none => rw [hz] at h; cases h
        | some n =>
          rw [hz] at h
          cases n with
          | zero => cases h
          | succ n =>
            have hrun : ∀ (a : Addr) w, (fieldPlace a fd).run P w = .ok (a.add fd.offset) w := fun a w => by simp [fieldPlace, run_size hz, Sem.run, pure]
            cases p with
            | ptr b inc ver off =>
              simp only [Option.some.injEq] at h
              subst h
              cases hf with
              | ptr _ _ _ _ g h1 =>
                refine ⟨_, fields, fd, _, rfl, rfl, hi, hrun _, ?_⟩
                rw [addr_add]
                exact .ptr b inc ver _ g h1
            | fptr tn cells =>
              simp only [Option.some.injEq] at h
              subst h
              cases hf with
              | fptr _ _ a vs h4 h5 h6 =>
                refine ⟨a, fields, fd, _, rfl, rfl, hi, hrun _, .fptr tn _ _ (fun j => vs (fd.offset + j)) (fun j hj => ?_) (fun j hj => ?_) (allPure_drop h6 _)⟩
                · simp only [List.length_drop] at hj
                  obtain ⟨b1, b2⟩ := h4 (fd.offset + j) (by omega)
                  rw [add_block]
                  have hadd : (a.add fd.offset).add j = a.add (fd.offset + j) := by
                    unfold Addr.add
                    by_cases c1 : fd.offset = 0 <;> by_cases c2 : j = 0
                    · simp [c1, c2]
                    · simp [c1, c2]
                    · simp [c1, c2]
                    · simp [c1, c2]; omega
                  rw [hadd]
                  exact ⟨b1, b2⟩
                · have e1 : (cells.drop fd.offset)[j] = cells[fd.offset + j]'(by simp only [List.length_drop] at hj; omega) := by rw [List.getElem_drop]
                  rw [e1]; exact h5 _ _
            | _ => cases h
    | _ => cases h

end Go.Ax
