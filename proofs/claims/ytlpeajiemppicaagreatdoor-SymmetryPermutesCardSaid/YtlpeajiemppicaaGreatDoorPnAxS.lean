/- Each abstract operation stands for the model's: structs built, rows made. -/
import Derived.Test.YtlpeajiemppicaaGreatDoorPnAxQ
namespace Go.Ax
set_option linter.unusedVariables false
set_option linter.unusedSimpArgs false

variable {P : Program} {pol : Pol} {ρ : Loc} {R T : Nat → Prop} {w : World}

theorem run_mapM_list {α β : Type} {f : α → Sem β} {g : α → β} : ∀ {l : List α}, (∀ x ∈ l, ∀ w, (f x).run P w = .ok (g x) w) → ∀ w, (l.mapM f).run P w = .ok (l.map g) w
  | [], _, w => by simp [Sem.run, pure]
  | a :: l, h, w => by
    rw [List.mapM_cons]
    have h1 := h a (by simp) w
    have h2 := run_mapM_list (l := l) (fun x hx => h x (by simp [hx])) w
    simp only [Sem.run_bind, h1, Result.andThen_ok, h2]
    simp [Sem.run, pure]

theorem run_mapM_array {α β : Type} {f : α → Sem β} {g : α → β} {a : Array α} (h : ∀ x ∈ a.toList, ∀ w, (f x).run P w = .ok (g x) w) (w : World) : (a.mapM f).run P w = .ok (a.map g) w := by
  rw [Array.mapM_eq_mapM_toList]
  have h1 := run_mapM_list h w
  have : (List.toArray <$> a.toList.mapM f) = (a.toList.mapM f) >>= fun l => pure l.toArray := rfl
  rw [this, Sem.run_bind, h1, Result.andThen_ok]
  simp only [Sem.run, pure]
  congr 1
  apply Array.ext'
  simp

/-- Values beside abstract values, one by one. -/
def FitParts (ρ : Loc) (R T : Nat → Prop) (w : World) : List (Nat × AVal) → List (Nat × Value) → Prop
  | [], [] => True
  | (i, v) :: r, (j, x) :: s => i = j ∧ Fit ρ R T w v x ∧ FitParts ρ R T w r s
  | _, _ => False

theorem evParts_ok {env : Env} {a : Act} (he : EnvOk ρ R T w env a.tmps) (hg : GlobOk pol ρ R T w) : ∀ {xs : List (Nat × Operand)} {vs : List (Nat × AVal)}, evParts pol env xs = some vs →
    FitParts ρ R T w vs (xs.map fun p => (p.1, a.eval p.2))
  | [], vs, h => by simp only [evParts, Option.some.injEq] at h; subst h; exact trivial
  | (i, x) :: r, vs, h => by
    simp only [evParts] at h
    cases h1 : aev pol env x with
    | none => rw [h1] at h; cases h
    | some v =>
      rw [h1] at h
      simp only at h
      cases h2 : evParts pol env r with
      | none => rw [h2] at h; cases h
      | some ws =>
        rw [h2] at h
        simp only [Option.some.injEq] at h
        subst h
        exact ⟨rfl, aev_ok he hg h1, evParts_ok he hg h2⟩

theorem fit_cells_one {v : AVal} {x : Value} (h : Fit ρ R T w v x) (hv : v.cellsOf = [v]) (hx : x.cells = #[x]) : x.cells.size = v.cellsOf.length ∧ ∀ j (hj : j < v.cellsOf.length), Fit ρ R T w v.cellsOf[j] (x.cells.getD j undef) := by
  rw [hx]
  refine ⟨by rw [hv]; rfl, fun j hj => ?_⟩
  have hl : v.cellsOf.length = 1 := by rw [hv]; rfl
  obtain rfl : j = 0 := by omega
  have e : v.cellsOf[0] = v := getElem_of_some _ (by rw [hv]; rfl)
  rw [e]; exact h

theorem fit_cells {v : AVal} {x : Value} (h : Fit ρ R T w v x) : x.cells.size = v.cellsOf.length ∧ ∀ j (hj : j < v.cellsOf.length), Fit ρ R T w v.cellsOf[j] (x.cells.getD j undef) := by
  have h0 := h
  cases h with
  | agg cells cs h1 h2 => exact ⟨h1, h2⟩
  | _ => exact fit_cells_one h0 rfl rfl

theorem foldl_setIfInBounds (off : Nat) : ∀ (vs : List Value) (k : Nat) (cells : Array Value), off + k + vs.length ≤ cells.size →
    ((vs.zipIdx k).foldl (fun cs (c, j) => cs.setIfInBounds (off + j) c) cells).size = cells.size ∧
    ∀ j, ((vs.zipIdx k).foldl (fun cs (c, j) => cs.setIfInBounds (off + j) c) cells)[j]? = if j < off + k then cells[j]? else if j < off + k + vs.length then vs[j - (off + k)]? else cells[j]?
  | [], k, cells, h => ⟨rfl, fun j => by simp; omega⟩
  | v :: r, k, cells, h => by
    simp only [List.length_cons] at h
    obtain ⟨h1, h2⟩ := foldl_setIfInBounds off r (k + 1) (cells.setIfInBounds (off + k) v) (by simp; omega)
    simp only [List.zipIdx_cons, List.foldl_cons]
    refine ⟨by rw [h1]; simp, fun j => ?_⟩
    rw [h2 j]
    simp only [List.length_cons, Array.getElem?_setIfInBounds]
    by_cases c1 : j < off + k
    · rw [if_pos (by omega), if_pos c1, if_neg (by omega)]
    · by_cases c2 : j = off + k
      · subst c2
        rw [if_pos (by omega), if_pos rfl, if_pos (by omega), if_neg (by omega), if_pos (by omega)]
        simp
      · rw [if_neg (by omega), if_neg c1]
        by_cases c3 : j < off + (k + 1) + r.length
        · rw [if_pos c3, if_pos (by omega)]
          rw [show j - (off + k) = (j - (off + (k + 1))) + 1 by omega]
          simp
        · rw [if_neg c3, if_neg (by omega), if_neg (by omega)]

theorem afill_ok {place : Nat → Option (Nat × Nat)} {place' : Nat → Option (Nat × Nat)} (hpl : ∀ i p, place i = some p → place' i = some p) : ∀ {parts : List (Nat × AVal)} {xs : List (Nat × Value)} {cells out : List AVal} {cs : Array Value},
    afill place cells parts = some out → FitParts ρ R T w parts xs → cs.size = cells.length → (∀ j (h : j < cells.length), Fit ρ R T w cells[j] (cs.getD j undef)) →
    ∃ cs', Instr.fill place' cs xs = some cs' ∧ cs'.size = out.length ∧ out.length = cells.length ∧ ∀ j (h : j < out.length), Fit ρ R T w out[j] (cs'.getD j undef)
  | [], [], cells, out, cs, h, _, hs, hf => by
    simp only [afill, Option.some.injEq] at h
    subst h
    exact ⟨cs, rfl, hs, rfl, hf⟩
  | (i, v) :: r, (j, x) :: s, cells, out, cs, h, hp, hs, hf => by
    obtain ⟨rfl, hv, hr⟩ := hp
    simp only [afill] at h
    cases h1 : place i with
    | none => rw [h1] at h; cases h
    | some p =>
      obtain ⟨off, size⟩ := p
      rw [h1] at h
      simp only at h
      cases hc : (v.cellsOf.length == size && Nat.ble (off + size) cells.length) with
      | false => rw [hc] at h; cases h
      | true =>
        rw [hc, cond_true] at h
        simp only [Bool.and_eq_true, beq_iff_eq, Nat.ble_eq] at hc
        obtain ⟨hc1, hc2⟩ := hc
        obtain ⟨a1, a2⟩ := fit_cells hv
        have hb : off + x.cells.size ≤ cs.size := by omega
        obtain ⟨b1, b2⟩ := foldl_setIfInBounds off x.cells.toList 0 cs (by simpa using hb)
        have hle : off + v.cellsOf.length ≤ cells.length := by omega
        have hfold : x.cells.zipIdx.foldl (fun cs (c, j) => cs.setIfInBounds (off + j) c) cs = (x.cells.toList.zipIdx 0).foldl (fun cs (c, j) => cs.setIfInBounds (off + j) c) cs := by
          rw [← Array.foldl_toList]; simp
        obtain ⟨cs', c1, c2, c3, c4⟩ := afill_ok hpl (cs := (x.cells.toList.zipIdx 0).foldl (fun cs (c, j) => cs.setIfInBounds (off + j) c) cs) h hr (by rw [b1, setAt_length _ _ _ hle, hs]) (fun j hj => by
          rw [setAt_length _ _ _ hle] at hj
          have hg := setAt_get cells v.cellsOf off hle j
          have hg' := b2 j
          simp only [Nat.add_zero, Array.length_toList] at hg'
          have key : ∀ (y : AVal) (u : Value), (setAt cells off v.cellsOf)[j]? = some y → ((x.cells.toList.zipIdx 0).foldl (fun cs (c, j) => cs.setIfInBounds (off + j) c) cs)[j]? = some u → Fit ρ R T w y u →
              Fit ρ R T w (setAt cells off v.cellsOf)[j] (((x.cells.toList.zipIdx 0).foldl (fun cs (c, j) => cs.setIfInBounds (off + j) c) cs).getD j undef) := fun y u hy hu hfit => by
            rw [getElem_of_some _ hy, Array.getD_eq_getD_getElem?, hu]; exact hfit
          have hjs : j < cs.size := by omega
          have hold := hf j hj
          rw [Array.getD_eq_getD_getElem?, Array.getElem?_eq_getElem hjs, Option.getD_some] at hold
          by_cases d1 : j < off
          · rw [if_pos d1] at hg hg'
            exact key _ _ (hg.trans (List.getElem?_eq_getElem hj)) (hg'.trans (Array.getElem?_eq_getElem hjs)) hold
          · rw [if_neg d1] at hg hg'
            by_cases d2 : j < off + v.cellsOf.length
            · rw [if_pos d2] at hg
              rw [if_pos (by omega)] at hg'
              have hjv : j - off < v.cellsOf.length := by omega
              have hjx : j - off < x.cells.size := by omega
              refine key _ _ (hg.trans (List.getElem?_eq_getElem hjv)) (hg'.trans (by rw [Array.getElem?_toList]; exact Array.getElem?_eq_getElem hjx)) ?_
              have := a2 (j - off) hjv
              rwa [Array.getD_eq_getD_getElem?, Array.getElem?_eq_getElem hjx, Option.getD_some] at this
            · rw [if_neg d2] at hg
              rw [if_neg (by omega)] at hg'
              exact key _ _ (hg.trans (List.getElem?_eq_getElem hj)) (hg'.trans (Array.getElem?_eq_getElem hjs)) hold)
        refine ⟨cs', ?_, c2, by rw [c3, setAt_length _ _ _ hle], c4⟩
        simp only [Instr.fill, hpl i _ h1]
        rw [if_neg (by
          simp only [Bool.or_eq_true, decide_eq_true_eq, not_or]
          exact ⟨by omega, by omega⟩), hfold]
        exact c1
  | [], _ :: _, _, _, _, _, hp, _, _ => hp.elim
  | _ :: _, [], _, _, _, _, hp, _, _ => hp.elim

theorem abuild_ok {t : TypeId} {parts : List (Nat × AVal)} {xs : Array (Nat × Value)} {v : AVal} (h : abuild P t parts = some v) (hp : FitParts ρ R T w parts xs.toList) :
    ∃ z, (∀ w, (Instr.build t xs).run P w = .ok z w) ∧ Fit ρ R T w v z := by
  unfold abuild at h
  cases hz : zeroT P t with
  | none => rw [hz] at h; cases h
  | some z =>
    rw [hz] at h
    have hzero : ∃ zv, (∀ w, (zeroValue t).run P w = .ok zv w) ∧ ofVal 4 zv = some z := by
      obtain ⟨zv, a1, a2⟩ := run_zero hz w
      refine ⟨zv, fun w' => ?_, a2⟩
      obtain ⟨zv', b1, b2⟩ := run_zero hz w'
      unfold zeroT at hz
      cases hi : P.info? t with
      | none => rw [hi] at hz; cases hz
      | some i =>
        simp only [zeroValue, Sem.run_bind, run_info hi, Result.andThen_ok] at a1 b1 ⊢
        cases hzz : i.zero with
        | none => rw [hzz] at a1; simp [unsupported, Sem.run] at a1
        | some z0 =>
          rw [hzz] at a1
          simp only [Sem.run, pure, Result.ok.injEq, and_true] at a1 ⊢
          exact a1
    obtain ⟨zv, hz1, hz2⟩ := hzero
    obtain ⟨a1, a2⟩ := fit_cells (ofVal_ok ρ R T w 4 zv z hz2)
    cases hu : P.underlying t with
    | none => rw [hu] at h; cases h
    | some d =>
      rw [hu] at h
      cases d with
      | struct fields =>
        simp only at h
        cases hall : fields.all fun f => (szT P f.type).isSome with
        | false => rw [hall] at h; cases h
        | true =>
          rw [hall] at h
          simp only [cond_true, Option.map_eq_some_iff] at h
          obtain ⟨out, h1, rfl⟩ := h
          have hsz : ∀ f ∈ fields.toList, ∀ w, (do pure (f.offset, ← sizeOf f.type) : Sem (Nat × Nat)).run P w = .ok (f.offset, (szT P f.type).getD 0) w := fun f hf w => by
            have := (Array.all_eq_true_iff_forall_mem.1 hall) f (Array.mem_toList_iff.1 hf)
            obtain ⟨n, hn⟩ := Option.isSome_iff_exists.1 this
            simp [run_size hn, hn, Sem.run, pure]
          obtain ⟨cs', b1, b2, b3, b4⟩ := afill_ok (place' := ((fields.map fun f => (f.offset, (szT P f.type).getD 0))[·]?)) (fun i p hp => by
            unfold fieldPl at hp
            cases hf : fields[i]? with
            | none => rw [hf] at hp; cases hp
            | some f =>
              rw [hf] at hp
              simp only at hp
              cases hn : szT P f.type with
              | none => rw [hn] at hp; cases hp
              | some n =>
                rw [hn] at hp
                simp only [Option.some.injEq] at hp
                subst hp
                simp [Array.getElem?_map, hf, hn]) h1 hp a1 a2
          refine ⟨.agg cs', fun w => ?_, .agg _ _ b2 b4⟩
          have hm := run_mapM_array (P := P) (a := fields) (g := fun f => (f.offset, (szT P f.type).getD 0)) hsz w
          simp only [Instr.build, Sem.run_bind, hz1, Result.andThen_ok, run_underlying hu, hm, b1]
          simp [Sem.run, pure]
      | array len elem =>
        simp only at h
        cases hn : szT P elem with
        | none => rw [hn] at h; cases h
        | some n =>
          rw [hn] at h
          simp only [Option.map_eq_some_iff] at h
          obtain ⟨out, h1, rfl⟩ := h
          obtain ⟨cs', b1, b2, b3, b4⟩ := afill_ok (fun i p hp => hp) h1 hp a1 a2
          refine ⟨.agg cs', fun w => ?_, .agg _ _ b2 b4⟩
          simp only [Instr.build, Sem.run_bind, hz1, Result.andThen_ok, run_underlying hu, run_size hn, b1]
          simp [Sem.run, pure]
      | _ => cases h

end Go.Ax
