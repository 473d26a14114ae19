/- Regions whose order is drawn. -/
import Derived.Test.YtlpeajiemppicaaGreatDoorPnAyI
namespace Go.Ax
set_option linter.unusedVariables false
set_option linter.unusedSimpArgs false
variable {P : Program} {pol : Pol} {ρ : Loc} {R T : Nat → Prop} {w : World}

/-! ### equality of values -/
theorem natsEq_true : ∀ {x y : List Nat}, natsEq x y = true → x = y
  | [], [], _ => rfl
  | [], _ :: _, h => by cases h
  | _ :: _, [], h => by cases h
  | a :: x, b :: y, h => by
    simp only [natsEq] at h
    cases hab : (a == b) with
    | false => rw [hab] at h; cases h
    | true =>
      rw [hab, cond_true] at h
      rw [beq_iff_eq.1 hab, natsEq_true h]

theorem listEqBy_true {f : AVal → AVal → Bool} (hf : ∀ a b, f a b = true → a = b) : ∀ {x y : List AVal}, listEqBy f x y = true → x = y
  | [], [], _ => rfl
  | [], _ :: _, h => by cases h
  | _ :: _, [], h => by cases h
  | a :: x, b :: y, h => by
    simp only [listEqBy, Bool.and_eq_true] at h
    rw [hf a b h.1, listEqBy_true hf h.2]

theorem aveq_true : ∀ n {a b : AVal}, aveq n a b = true → a = b
  | 0, _, _, h => by cases h
  | n + 1, a, b, h => by
    have hl : ∀ {x y : List AVal}, listEqBy (aveq n) x y = true → x = y := listEqBy_true fun a b => aveq_true n
    unfold aveq at h
    split at h
    all_goals first
      | rfl
      | (cases h; done)
      | skip
    all_goals try simp only [Bool.and_eq_true, beq_iff_eq, Id.eq_iff] at h
    · rw [h]
    · rw [h.1, h.2]
    · rw [natsEq_true h]
    · obtain ⟨⟨⟨rfl, rfl⟩, rfl⟩, h⟩ := h; rw [hl h]
    · obtain ⟨⟨⟨⟨⟨⟨rfl, rfl⟩, rfl⟩, rfl⟩, rfl⟩, rfl⟩, rfl⟩ := h; rfl
    · obtain ⟨⟨⟨rfl, rfl⟩, rfl⟩, rfl⟩ := h; rfl
    · obtain ⟨rfl, h⟩ := h; rw [hl h]
    · obtain ⟨rfl, rfl⟩ := h; rfl
    · obtain ⟨rfl, rfl⟩ := h; rfl
    · obtain ⟨rfl, rfl⟩ := h; rfl
    · obtain ⟨⟨rfl, h1⟩, h2⟩ := h; rw [hl h1, hl h2]
    · obtain ⟨rfl, h⟩ := h; rw [aveq_true n h]
    · rw [hl h]
    · rw [hl h]

/-! ### what is looked at -/
theorem lk_pickE {env : Env} {k : Nat} {v : AVal} : ∀ {ts : List Tmp}, lk k (pickE ts env) = some v → k ∈ ts ∧ lk k env = some v
  | [], h => by simp [pickE, lk] at h
  | t :: ts, h => by
    simp only [pickE] at h
    cases ht : lk t env with
    | none =>
      rw [ht] at h
      obtain ⟨h1, h2⟩ := lk_pickE h
      exact ⟨by simp [h1], h2⟩
    | some u =>
      rw [ht] at h
      simp only [lk] at h
      cases hk : (t == k) with
      | true =>
        rw [hk] at h
        simp only [cond_true, Option.some.injEq] at h
        have := beq_iff_eq.1 hk
        subst this; subst h
        exact ⟨by simp, ht⟩
      | false =>
        rw [hk] at h
        obtain ⟨h1, h2⟩ := lk_pickE h
        exact ⟨by simp [h1], h2⟩

/-! ### the heap with variables laid -/
abbrev DVar.id (cx : Cx) (x : DVar) : Id := .v (cx.base + x.d)
abbrev DVar.row (c0 : Nat) (x : DVar) : ABlk := .row (c0 + x.i) (c0 + x.i) x.cells.length false x.cells

theorem layVars_lk {cx : Cx} {c0 : Nat} (b : Id) : ∀ {l : List DVar} (h : Heap), (l.map (DVar.id cx)).Nodup →
    (∀ x ∈ l, x.id cx = b → lkI b (layVars cx c0 l h) = some (x.row c0)) ∧ ((∀ x ∈ l, x.id cx ≠ b) → lkI b (layVars cx c0 l h) = lkI b h)
  | [], h, _ => ⟨(fun x hx => by cases hx), fun _ => rfl⟩
  | y :: r, h, hd => by
    simp only [List.map_cons, List.nodup_cons] at hd
    obtain ⟨i1, i2⟩ := layVars_lk (c0 := c0) b (upI (y.id cx) (y.row c0) h) hd.2
    simp only [layVars]
    refine ⟨fun x hx hb => ?_, fun hn => ?_⟩
    · rcases List.mem_cons.1 hx with rfl | hx
      · rw [i2 (fun z hz e => hd.1 (List.mem_map.2 ⟨z, hz, by rw [e, hb]⟩)), lkI_upI]
        simp [hb]
      · exact i1 x hx hb
    · rw [i2 (fun x hx => hn x (by simp [hx])), lkI_upI]
      have := hn y (by simp)
      simp [this]

/-- The same by what can be looked up. -/
theorem Own.ext {h h' : Heap} (he : ∀ b, lkI b h' = lkI b h) {g : Nat} : Own ρ h' g ↔ Own ρ h g :=
  ⟨fun ⟨b, k, v, h1, h2⟩ => ⟨b, k, v, by rw [← he]; exact h1, h2⟩, fun ⟨b, k, v, h1, h2⟩ => ⟨b, k, v, by rw [he]; exact h1, h2⟩⟩

theorem Rs.ext {Res : Nat → Prop} {h h' : Heap} (he : ∀ b, lkI b h' = lkI b h) : Rs ρ h' Res = Rs ρ h Res :=
  funext fun g => propext (or_congr (Own.ext he) Iff.rfl)

theorem Good.ext {Res : Nat → Prop} {st st1 : St} (h : Good ρ Res T st w) (hc : st1.clock = st.clock) (he : ∀ b, lkI b st1.heap = lkI b st.heap) : Good ρ Res T st1 w where
  inj := h.inj
  lt := h.lt
  fresh := fun i v hv => h.fresh i v (by rw [← hc]; exact hv)
  ids := fun b b' k k' h1 h2 e => h.ids b b' k k' (by rw [← he]; exact h1) (by rw [← he]; exact h2) e
  blk := fun b k hk => by rw [Rs.ext he]; exact h.blk b k (by rw [← he]; exact hk)
  sep := fun g hg => h.sep g ((Own.ext he).1 hg)
  res := h.res
  tnt := h.tnt

theorem EvW.ext_right {ρ' : Loc} {st st' st1 : St} {w' : World} (h : EvW ρ ρ' st st' w w') (hc : st1.clock = st'.clock) (he : ∀ b, lkI b st1.heap = lkI b st'.heap) : EvW ρ ρ' st st1 w w' :=
  ⟨h.ext, fun g hg => h.new g ((Own.ext he).1 hg), h.frame, h.size, h.shape, h.os, h.tape, h.output, by rw [hc]; exact h.clock⟩

theorem Ev.ext_right {ρ' : Loc} {st st' st1 : St} {w' : World} (h : Ev ρ ρ' st st' w w') (hc : st1.clock = st'.clock) (he : ∀ b, lkI b st1.heap = lkI b st'.heap) : Ev ρ ρ' st st1 w w' :=
  ⟨h.toEvW.ext_right hc he, h.old⟩

/-- A variable laid under a clock kept for it. -/
theorem good_var {Res : Nat → Prop} {st : St} (h : Good ρ Res T st w) (b : Id) {k : Nat} (hk : k < st.clock) (hn : ∀ v, ρ k v = none) {z : AVal} {X : Value} (t : TypeId) (hx : Fit ρ (Rs ρ st.heap Res) T w z X) :
    let w' : World := { w with heap := w.heap.push (.cells X.cells t) }
    let ρ' := bind2 ρ k k w.heap.size
    let st' : St := { st with heap := upI b (.row k k z.cellsOf.length false z.cellsOf) st.heap }
    EvW ρ ρ' st st' w w' ∧ Good ρ' Res T st' w' ∧ Fit ρ' (Rs ρ' st'.heap Res) T w' (.ptr b k k 0) (.pointer (some ⟨w.heap.size, 0, none⟩)) := by
  intro w' ρ' st'
  have hw : w'.heap = w.heap.push (.cells X.cells t (0, 0)) := rfl
  obtain ⟨a1, a2⟩ := fit_cells hx
  have hone : ∀ v g, ρ' k v = some g → v = k ∧ g = w.heap.size := fun v g hv => by
    by_cases e : k = k ∧ v = k
    · rw [e.2] at hv
      have := bind2_same ρ k k w.heap.size
      rw [show ρ' k k = some w.heap.size from this] at hv
      cases hv
      exact ⟨e.2, rfl⟩
    · rw [show ρ' k v = ρ k v from bind2_other e, hn] at hv; cases hv
  obtain ⟨ev, good⟩ := good_stepW (ρ' := ρ') (st' := st') (w' := w') h b (.row k k z.cellsOf.length false z.cellsOf) (by rw [hw]; simp) rfl rfl rfl (fun i v g hg => by
      have : ¬ (i = k ∧ v = k) := fun e => by rw [e.1, hn] at hg; cases hg
      rw [show ρ' i v = ρ i v from bind2_other this]; exact hg)
    (fun i v g hg => by
      by_cases e : i = k ∧ v = k
      · right
        obtain ⟨rfl, rfl⟩ := e
        have := (hone _ _ hg).2
        exact ⟨rfl, .inr ⟨by omega, by rw [hw]; simp; omega⟩⟩
      · rw [show ρ' i v = ρ i v from bind2_other e] at hg; exact .inl hg)
    (fun g hg _ => heap_push_old hw hg) (fun g x hx => by rw [shape_of_heap (heap_push_old hw (shape_lt hx))]; exact hx) rfl (.inl hn) (Nat.le_refl _)
    (fun i v hv => by
      have : ¬ (i = k ∧ v = k) := fun e => by
        have hc : st'.clock = st.clock := rfl
        rw [hc] at hv; omega
      rw [show ρ' i v = ρ i v from bind2_other this]; exact h.fresh i v hv)
  refine ⟨ev, good ⟨⟨_, bind2_same ..⟩, Nat.le_refl _, fun _ v g hv => (hone v g hv).1, fun v g hv => ?_⟩, .ptr b _ _ 0 _ (bind2_same ..)⟩
  have hg := (hone v g hv).2
  subst hg
  refine ⟨X.cells, t, heap_push_new hw, fun j hj _ => ?_⟩
  obtain ⟨x, hx', hf⟩ := cells_get a1 a2 j hj
  exact ⟨x, hx', hf.evw ev h.res⟩

end Go.Ax
