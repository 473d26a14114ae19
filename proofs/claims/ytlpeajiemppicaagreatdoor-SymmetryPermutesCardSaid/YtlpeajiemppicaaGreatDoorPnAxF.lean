/- Freezing: what is read whole out of owned rows stands for the same values, once those rows are nobody's or are lent. -/
import Derived.Test.YtlpeajiemppicaaGreatDoorPnAxN
namespace Go.Ax
set_option linter.unusedVariables false
set_option linter.unusedSimpArgs false

/-- The blocks of some rows. -/
def KOwn (ρ : Loc) (h : Heap) (ids : List Id) (g : Nat) : Prop := ∃ b, b ∈ ids ∧ ∃ k v, lkI b h = some k ∧ ρ k.inc v = some g

theorem KOwn.own {ρ : Loc} {h : Heap} {ids : List Id} {g : Nat} (k : KOwn ρ h ids g) : Own ρ h g := by
  obtain ⟨b, _, k, v, h1, h2⟩ := k; exact ⟨b, k, v, h1, h2⟩

structure Lent (ρ : Loc) (h : Heap) (R T : Nat → Prop) (tn : Bool) (ids : List Id) (R' T' : Nat → Prop) : Prop where
  r : ∀ g, R' g → R g
  k : ∀ g, R' g → ¬ KOwn ρ h ids g
  t : ∀ g, T' g → T g ∨ (tn = true ∧ KOwn ρ h ids g)

theorem Lent.sub {ρ : Loc} {h : Heap} {R T : Nat → Prop} {tn : Bool} {ids ids' : List Id} {R' T' : Nat → Prop} (l : Lent ρ h R T tn ids R' T') (hr : ∀ g, Own ρ h g → R g) :
    ∀ {tn' : Bool} {g : Nat}, Free R T tn' g → Free R' T' tn' g := fun {tn' g} hf =>
  ⟨fun hg => hf.1 (l.r g hg), fun e ht => by
    rcases l.t g ht with h1 | ⟨_, h1⟩
    · exact hf.2 e h1
    · exact hf.1 (hr g h1.own)⟩

/-- A pure value means the same where less is owned. -/
theorem Fit.lent {ρ : Loc} {h : Heap} {R T : Nat → Prop} {tn : Bool} {ids : List Id} {R' T' : Nat → Prop} {w : World} (l : Lent ρ h R T tn ids R' T') (hr : ∀ g, Own ρ h g → R g) {x : AVal} {v : Value}
    (hf : Fit ρ R T w x v) : Fit ρ R' T' w x v :=
  hf.mono (fun _ _ _ h => h) (fun _ _ h => h) (fun tn' g _ h => l.sub hr (ids' := ids) h) (fun _ _ _ _ h => h)

def FzOk (ρ : Loc) (st : St) (Res T : Nat → Prop) (w : World) (tn : Bool) (f : AVal → List Id → Option (AVal × List Id)) : Prop :=
  ∀ v acc v' acc' x, f v acc = some (v', acc') → Fit ρ (Rs ρ st.heap Res) T w v x →
    (∀ b ∈ acc, b ∈ acc') ∧ v'.pure = true ∧ (v'.one = v.one) ∧ ∀ ids, (∀ b ∈ acc', b ∈ ids) → ∀ R' T', Lent ρ st.heap (Rs ρ st.heap Res) T tn ids R' T' → Fit ρ R' T' w v' x

def FzLOk (ρ : Loc) (st : St) (Res T : Nat → Prop) (w : World) (tn : Bool) (f : List AVal → List Id → Option (List AVal × List Id)) : Prop :=
  ∀ vs acc vs' acc' (xs : Nat → Value), f vs acc = some (vs', acc') → (∀ j (h : j < vs.length), Fit ρ (Rs ρ st.heap Res) T w vs[j] (xs j)) →
    (∀ b ∈ acc, b ∈ acc') ∧ allPure vs' = true ∧ vs'.length = vs.length ∧ vs'.all AVal.one = vs.all AVal.one ∧
      ∀ ids, (∀ b ∈ acc', b ∈ ids) → ∀ R' T', Lent ρ st.heap (Rs ρ st.heap Res) T tn ids R' T' → ∀ j (h : j < vs'.length), Fit ρ R' T' w vs'[j] (xs j)

theorem freezeL_ok {ρ : Loc} {st : St} {Res T : Nat → Prop} {w : World} {tn : Bool} {f : AVal → List Id → Option (AVal × List Id)} (hf : FzOk ρ st Res T w tn f) : FzLOk ρ st Res T w tn (freeze.freezeL f) := by
  intro vs
  induction vs with
  | nil =>
    intro acc vs' acc' xs h _
    simp only [freeze.freezeL, Option.some.injEq, Prod.mk.injEq] at h
    obtain ⟨rfl, rfl⟩ := h
    exact ⟨fun b h => h, rfl, rfl, rfl, fun _ _ _ _ _ j hj => by simp at hj⟩
  | cons v r ih =>
    intro acc vs' acc' xs h hfit
    simp only [freeze.freezeL] at h
    cases h1 : f v acc with
    | none => rw [h1] at h; cases h
    | some p1 =>
      obtain ⟨v1, acc1⟩ := p1
      rw [h1] at h
      simp only at h
      cases h2 : freeze.freezeL f r acc1 with
      | none => rw [h2] at h; cases h
      | some p2 =>
        obtain ⟨r1, acc2⟩ := p2
        rw [h2] at h
        simp only [Option.some.injEq, Prod.mk.injEq] at h
        obtain ⟨rfl, rfl⟩ := h
        obtain ⟨a1, a2, a2', a3⟩ := hf v acc v1 acc1 (xs 0) h1 (hfit 0 (by simp))
        obtain ⟨b1, b2, b3, b3', b4⟩ := ih acc1 r1 acc2 (fun j => xs (j + 1)) h2 (fun j hj => hfit (j + 1) (by simpa using hj))
        refine ⟨fun b hb => b1 b (a1 b hb), by simp [allPure, a2, b2], by simp [b3], by simp [a2', b3'], fun ids hids R' T' hl j hj => ?_⟩
        cases j with
        | zero => exact a3 ids (fun b hb => hids b (b1 b hb)) R' T' hl
        | succ j => exact b4 ids hids R' T' hl j (by simpa using hj)

theorem freeze_ok {ρ : Loc} {st : St} {Res T : Nat → Prop} {w : World} (hg : Good ρ Res T st w) (tn : Bool) : ∀ n, FzOk ρ st Res T w tn (freeze tn st.heap n) := by
  intro n
  induction n with
  | zero => intro v acc v' acc' x h; simp [freeze] at h
  | succ n ih =>
    have ihL := freezeL_ok ih
    have hown : ∀ g, Own ρ st.heap g → Rs ρ st.heap Res g := fun g h => .inl h
    have other : ∀ (v : AVal) (acc : List Id) (v' : AVal) (acc' : List Id) (x : Value), cond v.pure (some (v, acc)) none = some (v', acc') → Fit ρ (Rs ρ st.heap Res) T w v x →
        (∀ b ∈ acc, b ∈ acc') ∧ v'.pure = true ∧ (v'.one = v.one) ∧ ∀ ids, (∀ b ∈ acc', b ∈ ids) → ∀ R' T', Lent ρ st.heap (Rs ρ st.heap Res) T tn ids R' T' → Fit ρ R' T' w v' x := by
      intro v acc v' acc' x h hf
      cases hp : v.pure with
      | false => rw [hp] at h; cases h
      | true =>
        rw [hp] at h
        simp only [cond_true, Option.some.injEq, Prod.mk.injEq] at h
        obtain ⟨rfl, rfl⟩ := h
        exact ⟨fun b h => h, hp, rfl, fun ids _ R' T' hl => hf.lent hl hown⟩
    intro v acc v' acc' x h hf
    cases v with
    | sl cx b inc ver off len sz =>
      simp only [freeze] at h
      cases h1 : rowAt st.heap b inc ver off (len * sz) with
      | none => rw [h1] at h; cases h
      | some cells =>
        rw [h1] at h
        simp only at h
        cases h2 : freeze.freezeL (freeze tn st.heap n) cells (b :: acc) with
        | none => rw [h2] at h; cases h
        | some p2 =>
          obtain ⟨cs, acc2⟩ := p2
          rw [h2] at h
          simp only [Option.some.injEq, Prod.mk.injEq] at h
          obtain ⟨rfl, rfl⟩ := h
          cases hf with
          | sl _ _ _ _ _ _ _ g cap e m a1 a2 a3 a4 a5 =>
            obtain ⟨hlen, c, e', hgc, hcells⟩ := rowAt_ok hg h1 a1
            obtain ⟨b1, b2, b3, _, b4⟩ := ihL cells (b :: acc) cs acc2 (fun j => c.getD (off + j) undef) h2 (fun j hj => by
              obtain ⟨v, hv, hf⟩ := hcells j hj
              have : c.getD (off + j) undef = v := by simp [Array.getD_eq_getD_getElem?, hv]
              rw [this]; exact hf)
            have hk : ∀ ids, (∀ b ∈ acc2, b ∈ ids) → KOwn ρ st.heap ids g := fun ids hids => by
              unfold rowAt at h1
              cases hl : lkI b st.heap with
              | none => rw [hl] at h1; cases h1
              | some blk =>
                refine ⟨b, hids b (b1 b (by simp)), blk, ver, hl, ?_⟩
                rw [hl] at h1
                cases blk with
                | map => cases h1
                | iter => cases h1
                | loop => cases h1
                | row inc' cur low data cells' =>
                  simp only at h1
                  cases hc : (inc' == inc && cond (ver == cur) (Nat.ble (off + len * sz) cells'.length) (Nat.ble (off + len * sz) low && Nat.ble (off + len * sz) cells'.length)) with
                  | false => rw [hc] at h1; cases h1
                  | true =>
                    simp only [Bool.and_eq_true, beq_iff_eq] at hc
                    show ρ inc' ver = some g
                    rw [hc.1]; exact a1
            refine ⟨fun b' hb' => b1 b' (by simp [hb']), rfl, rfl, fun ids hids R' T' hl => ?_⟩
            refine .fsl tn cx len cs _ cap (fun j => c.getD (off + j) undef) a2 a3 (fun _ => ⟨_, rfl⟩) (fun j hj => ?_) (b4 ids hids R' T' hl) b2
            have hj' : j < cells.length := by omega
            obtain ⟨v, hv, _⟩ := hcells j hj'
            refine ⟨_, rfl, ⟨fun hr => hl.k g hr (hk ids hids), fun e ht => ?_⟩, ?_⟩
            · rcases hl.t g ht with h3 | ⟨h3, _⟩
              · exact (hg.sep g (hk ids hids).own).2 h3
              · rw [e] at h3; cases h3
            · rw [addr_add, cell_of_cells hgc, hv]
              simp [Array.getD_eq_getD_getElem?, hv]
    | iface t y =>
      simp only [freeze] at h
      cases h1 : freeze tn st.heap n y acc with
      | none => rw [h1] at h; cases h
      | some p1 =>
        obtain ⟨y1, acc1⟩ := p1
        rw [h1] at h
        simp only [Option.some.injEq, Prod.mk.injEq] at h
        obtain ⟨rfl, rfl⟩ := h
        cases hf with
        | iface _ _ xv hf =>
          obtain ⟨a1, a2, _, a3⟩ := ih y acc y1 acc1 xv h1 hf
          exact ⟨a1, by simp [AVal.pure, a2], rfl, fun ids hids R' T' hl => .iface t y1 xv (a3 ids hids R' T' hl)⟩
    | agg cs =>
      simp only [freeze] at h
      cases h1 : freeze.freezeL (freeze tn st.heap n) cs acc with
      | none => rw [h1] at h; cases h
      | some p1 =>
        obtain ⟨cs1, acc1⟩ := p1
        rw [h1] at h
        simp only [Option.some.injEq, Prod.mk.injEq] at h
        obtain ⟨rfl, rfl⟩ := h
        cases hf with
        | agg _ xs hx hf =>
          obtain ⟨a1, a2, a3, _, a4⟩ := ihL cs acc cs1 acc1 (fun j => xs.getD j undef) h1 hf
          exact ⟨a1, by simp [AVal.pure, a2], rfl, fun ids hids R' T' hl => .agg cs1 xs (by omega) (a4 ids hids R' T' hl)⟩
    | tuple cs =>
      simp only [freeze] at h
      cases h1 : freeze.freezeL (freeze tn st.heap n) cs acc with
      | none => rw [h1] at h; cases h
      | some p1 =>
        obtain ⟨cs1, acc1⟩ := p1
        rw [h1] at h
        simp only [Option.some.injEq, Prod.mk.injEq] at h
        obtain ⟨rfl, rfl⟩ := h
        cases hf with
        | tuple _ xs hx hf =>
          obtain ⟨a1, a2, a3, _, a4⟩ := ihL cs acc cs1 acc1 (fun j => xs.getD j undef) h1 hf
          exact ⟨a1, by simp [AVal.pure, a2], rfl, fun ids hids R' T' hl => .tuple cs1 xs (by omega) (a4 ids hids R' T' hl)⟩
    | bool => exact other _ _ _ _ _ h hf
    | int => exact other _ _ _ _ _ h hf
    | str => exact other _ _ _ _ _ h hf
    | nilptr => exact other _ _ _ _ _ h hf
    | nilfunc => exact other _ _ _ _ _ h hf
    | nilif => exact other _ _ _ _ _ h hf
    | nilmap => exact other _ _ _ _ _ h hf
    | fsl => exact other _ _ _ _ _ h hf
    | ptr => exact other _ _ _ _ _ h hf
    | fptr => exact other _ _ _ _ _ h hf
    | map => exact other _ _ _ _ _ h hf
    | iter => exact other _ _ _ _ _ h hf
    | yld => exact other _ _ _ _ _ h hf
    | func => exact other _ _ _ _ _ h hf

theorem frz_ok {ρ : Loc} {st : St} {Res T : Nat → Prop} {w : World} (hg : Good ρ Res T st w) {tn : Bool} {v v' : AVal} {acc : List Id} {x : Value} (h : frz tn st.heap v = some (v', acc))
    (hf : Fit ρ (Rs ρ st.heap Res) T w v x) : v'.pure = true ∧ (v'.one = v.one) ∧ ∀ ids, (∀ b ∈ acc, b ∈ ids) → ∀ R' T', Lent ρ st.heap (Rs ρ st.heap Res) T tn ids R' T' → Fit ρ R' T' w v' x := by
  unfold frz at h
  cases hp : v.pure with
  | true =>
    rw [hp] at h
    simp only [cond_true, Option.some.injEq, Prod.mk.injEq] at h
    obtain ⟨rfl, rfl⟩ := h
    exact ⟨hp, rfl, fun ids _ R' T' hl => hf.lent hl (fun g h => .inl h)⟩
  | false =>
    rw [hp] at h
    exact (freeze_ok hg tn 6 v [] v' acc x h hf).2

theorem frzL_ok {ρ : Loc} {st : St} {Res T : Nat → Prop} {w : World} (hg : Good ρ Res T st w) {tn : Bool} : FzLOk ρ st Res T w tn (frzL tn st.heap) := by
  intro vs
  induction vs with
  | nil =>
    intro acc vs' acc' xs h _
    simp only [frzL, Option.some.injEq, Prod.mk.injEq] at h
    obtain ⟨rfl, rfl⟩ := h
    exact ⟨fun b h => h, rfl, rfl, rfl, fun _ _ _ _ _ j hj => by simp at hj⟩
  | cons v r ih =>
    intro acc vs' acc' xs h hfit
    simp only [frzL] at h
    cases h1 : frz tn st.heap v with
    | none => rw [h1] at h; cases h
    | some p1 =>
      obtain ⟨v1, ids1⟩ := p1
      rw [h1] at h
      simp only at h
      cases h2 : frzL tn st.heap r (ids1 ++ acc) with
      | none => rw [h2] at h; cases h
      | some p2 =>
        obtain ⟨r1, acc2⟩ := p2
        rw [h2] at h
        simp only [Option.some.injEq, Prod.mk.injEq] at h
        obtain ⟨rfl, rfl⟩ := h
        obtain ⟨a2, a2', a3⟩ := frz_ok hg h1 (hfit 0 (by simp))
        obtain ⟨b1, b2, b3, b3', b4⟩ := ih (ids1 ++ acc) r1 acc2 (fun j => xs (j + 1)) h2 (fun j hj => hfit (j + 1) (by simpa using hj))
        refine ⟨fun b hb => b1 b (by simp [hb]), by simp [allPure, a2, b2], by simp [b3], by simp [a2', b3'], fun ids hids R' T' hl j hj => ?_⟩
        cases j with
        | zero => exact a3 ids (fun b hb => hids b (b1 b (by simp [hb]))) R' T' hl
        | succ j => exact b4 ids hids R' T' hl j (by simpa using hj)

/-- Rows that are frozen for good are dropped. -/
theorem kill_lent {ρ : Loc} {Res T : Nat → Prop} {st : St} {w : World} (hg : Good ρ Res T st w) (ids : List Id) :
    Lent ρ st.heap (Rs ρ st.heap Res) T false ids (Rs ρ (kill ids st.heap) Res) T where
  r := fun g hr => by
    rcases hr with ⟨b, k, v, hk, hv⟩ | hr
    · rw [lkI_kill] at hk
      by_cases hb : b ∈ ids
      · rw [if_pos hb] at hk; cases hk
      · rw [if_neg hb] at hk; exact .inl ⟨b, k, v, hk, hv⟩
    · exact .inr hr
  k := fun g hr ⟨b, hb, k, v, hk, hv⟩ => by
    rcases hr with ⟨b', k', v', hk', hv'⟩ | hr
    · rw [lkI_kill] at hk'
      by_cases hb' : b' ∈ ids
      · rw [if_pos hb'] at hk'; cases hk'
      · rw [if_neg hb'] at hk'
        have := hg.ids b b' k k' hk hk' (hg.inj _ _ _ _ _ hv hv')
        exact hb' (this ▸ hb)
    · exact (hg.sep g ⟨b, k, v, hk, hv⟩).1 hr
  t := fun g ht => .inl ht

theorem good_kill {ρ : Loc} {Res T : Nat → Prop} {st : St} {w : World} (hg : Good ρ Res T st w) (ids : List Id) :
    Ev ρ ρ st { st with heap := kill ids st.heap } w w ∧ Good ρ Res T { st with heap := kill ids st.heap } w :=
  good_drop hg (fun b k hk => by
    have hk' : lkI b (kill ids st.heap) = some k := hk
    rw [lkI_kill] at hk'
    by_cases hb : b ∈ ids
    · rw [if_pos hb] at hk'; cases hk'
    · rw [if_neg hb] at hk'; exact hk') (Nat.le_refl _)

/-- What goes into a row of data. -/
theorem frzData_ok {ρ : Loc} {Res T : Nat → Prop} {st st' : St} {w : World} (hg : Good ρ Res T st w) {pol : Pol} {cx : Cx} {cells cells' : List AVal} (h : frzData pol cx cells st = (cells', st'))
    (xs : Nat → Value) (hf : ∀ j (h : j < cells.length), Fit ρ (Rs ρ st.heap Res) T w cells[j] (xs j)) :
    Ev ρ ρ st st' w w ∧ Good ρ Res T st' w ∧ cells'.length = cells.length ∧ cells'.all AVal.one = cells.all AVal.one ∧ st'.clock = st.clock ∧ (∀ j (h : j < cells'.length), Fit ρ (Rs ρ st'.heap Res) T w cells'[j] (xs j)) := by
  unfold frzData at h
  cases hc : (pol.keep cx.fn || allPure cells) with
  | true =>
    rw [hc] at h
    simp only [cond_true, Prod.mk.injEq] at h
    obtain ⟨rfl, rfl⟩ := h
    exact ⟨Ev.refl .., hg, rfl, rfl, rfl, hf⟩
  | false =>
    rw [hc, cond_false] at h
    cases h1 : frzL false st.heap cells [] with
    | none =>
      rw [h1] at h
      simp only [Prod.mk.injEq] at h
      obtain ⟨rfl, rfl⟩ := h
      exact ⟨Ev.refl .., hg, rfl, rfl, rfl, hf⟩
    | some p =>
      obtain ⟨cs, ids⟩ := p
      rw [h1] at h
      simp only [Prod.mk.injEq] at h
      obtain ⟨rfl, rfl⟩ := h
      obtain ⟨a1, a2, a3, a3', a4⟩ := frzL_ok hg cells [] cs ids xs h1 hf
      obtain ⟨ev, good⟩ := good_kill hg ids
      exact ⟨ev, good, a3, a3', rfl, a4 ids (fun b h => h) _ _ (kill_lent hg ids)⟩

end Go.Ax
